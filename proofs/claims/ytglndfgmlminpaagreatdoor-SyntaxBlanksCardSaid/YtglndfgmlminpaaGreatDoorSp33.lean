/- Texts joined by pack.py: XSyXH -/
import Derived.Test.YtglndfgmlminpaaGreatDoorSp30
set_option maxHeartbeats 8000000
set_option maxRecDepth 100000
namespace Go.Proofs.YtglndfgmlminpaaGreatDoor
open Go.RowKit
section
variable {l : List Nd}
theorem x_stmt_let {i d q : Nat} {s : Bs} {v : Int} {ks : List Bs} {p : Bs} (hi : l[i]? = some ⟨13, s, v, ks, [(q : Int)]⟩) (hs : s.length ≤ 1000) (hE : ExprOk l q 1 p) : StmtOk l i d ([108, 101, 116, 32] ++ s ++ [32, 61, 32] ++ p ++ [59]) := by
 intro bs hb
 simp only [List.length_append, List.length_cons, List.length_nil] at hb
 have hg : (l.map ndD)[((i : Nat) : Int).toNat]? = some [.cv (.int .i64 13), .cv (.string (mk s)), .cv (.int .i64 v), .sl 1 (ks.map strD), .sl 1 (List.map intD [(q : Int)])] := by
  rw [Int.toNat_natCast, List.getElem?_map, hi]; rfl
 refine pcx Tryz.func76 (by kernel_rfl) (by kernel_rfl) ?_
 conv => whnf
 refine ⟨Int.natCast_nonneg i, _, hg, ?_⟩
 repeat ((conv => whnf); first | refine known true rfl ?_ | refine known false rfl ?_)
 refine ⟨none, by kernel_rfl, ?_⟩
 conv => whnf
 refine ⟨by rw [mk_size, size_d]; show 4 + _ ≤ _; omega, ?_⟩
 conv => whnf
 rw [catL]
 refine ⟨by rw [mk_size, size_d, List.length_append]; show 4 + _ + 3 ≤ _; omega, ?_⟩
 conv => whnf
 rw [catR]
 refine mcall (T := TM prM) (φ := []) (gf := false) (x_wsU (l := l) (bs := bs) ([108, 101, 116, 32] ++ s ++ [32, 61, 32]) (by (try simp only [List.length_append, List.length_cons, List.length_nil]); omega)) ?_
 repeat ((conv => whnf); first | refine known true rfl ?_ | refine known false rfl ?_)
 refine ⟨by decide, _, rfl, ?_⟩
 conv => whnf
 refine mcall (T := TM prM) (φ := []) (gf := false) (hE (bs ++ ([108, 101, 116, 32] ++ s ++ [32, 61, 32])) (by (try simp only [List.length_append, List.length_cons, List.length_nil]); omega)) ?_
 repeat ((conv => whnf); first | refine known true rfl ?_ | refine known false rfl ?_)
 refine mcall (T := TM prM) (φ := []) (gf := false) (x_wbU (l := l) (bs := bs ++ ([108, 101, 116, 32] ++ s ++ [32, 61, 32]) ++ p) 59 (by (try simp only [List.length_append, List.length_cons, List.length_nil]); omega)) ?_
 conv => whnf
 exact ⟨rfl, by rw [show bs ++ ([108, 101, 116, 32] ++ s ++ [32, 61, 32] ++ p ++ [59]) = bs ++ ([108, 101, 116, 32] ++ s ++ [32, 61, 32]) ++ p ++ [59] by simp]; rfl, rfl⟩
theorem x_stmt_set {i d q : Nat} {s : Bs} {v : Int} {ks : List Bs} {p : Bs} (hi : l[i]? = some ⟨14, s, v, ks, [(q : Int)]⟩) (hs : s.length ≤ 1000) (hE : ExprOk l q 1 p) : StmtOk l i d (s ++ [32, 61, 32] ++ p ++ [59]) := by
 intro bs hb
 simp only [List.length_append, List.length_cons, List.length_nil] at hb
 have hg : (l.map ndD)[((i : Nat) : Int).toNat]? = some [.cv (.int .i64 14), .cv (.string (mk s)), .cv (.int .i64 v), .sl 1 (ks.map strD), .sl 1 (List.map intD [(q : Int)])] := by
  rw [Int.toNat_natCast, List.getElem?_map, hi]; rfl
 refine pcx Tryz.func76 (by kernel_rfl) (by kernel_rfl) ?_
 conv => whnf
 refine ⟨Int.natCast_nonneg i, _, hg, ?_⟩
 repeat ((conv => whnf); first | refine known true rfl ?_ | refine known false rfl ?_)
 refine ⟨none, by kernel_rfl, ?_⟩
 conv => whnf
 refine ⟨by rw [mk_size, size_d]; show _ + 3 ≤ _; omega, ?_⟩
 conv => whnf
 rw [catR]
 refine mcall (T := TM prM) (φ := []) (gf := false) (x_wsU (l := l) (bs := bs) (s ++ [32, 61, 32]) (by (try simp only [List.length_append, List.length_cons, List.length_nil]); omega)) ?_
 repeat ((conv => whnf); first | refine known true rfl ?_ | refine known false rfl ?_)
 refine ⟨by decide, _, rfl, ?_⟩
 conv => whnf
 refine mcall (T := TM prM) (φ := []) (gf := false) (hE (bs ++ (s ++ [32, 61, 32])) (by (try simp only [List.length_append, List.length_cons, List.length_nil]); omega)) ?_
 repeat ((conv => whnf); first | refine known true rfl ?_ | refine known false rfl ?_)
 refine mcall (T := TM prM) (φ := []) (gf := false) (x_wbU (l := l) (bs := bs ++ (s ++ [32, 61, 32]) ++ p) 59 (by (try simp only [List.length_append, List.length_cons, List.length_nil]); omega)) ?_
 conv => whnf
 exact ⟨rfl, by rw [show bs ++ (s ++ [32, 61, 32] ++ p ++ [59]) = bs ++ (s ++ [32, 61, 32]) ++ p ++ [59] by simp]; rfl, rfl⟩
theorem x_stmt_ret {i d q : Nat} {s : Bs} {v : Int} {ks : List Bs} {p : Bs} (hi : l[i]? = some ⟨17, s, v, ks, [(q : Int)]⟩) (hE : ExprOk l q 1 p) : StmtOk l i d ([114, 101, 116, 117, 114, 110, 32] ++ p ++ [59]) := by
 intro bs hb
 simp only [List.length_append, List.length_cons, List.length_nil] at hb
 have hg : (l.map ndD)[((i : Nat) : Int).toNat]? = some [.cv (.int .i64 17), .cv (.string (mk s)), .cv (.int .i64 v), .sl 1 (ks.map strD), .sl 1 (List.map intD [(q : Int)])] := by
  rw [Int.toNat_natCast, List.getElem?_map, hi]; rfl
 refine pcx Tryz.func76 (by kernel_rfl) (by kernel_rfl) ?_
 conv => whnf
 refine ⟨Int.natCast_nonneg i, _, hg, ?_⟩
 repeat ((conv => whnf); first | refine known true rfl ?_ | refine known false rfl ?_)
 refine mcall (T := TM prM) (φ := []) (gf := false) (x_wsU (l := l) (bs := bs) [114, 101, 116, 117, 114, 110, 32] (by (try simp only [List.length_cons, List.length_nil]); omega)) ?_
 repeat ((conv => whnf); first | refine known true rfl ?_ | refine known false rfl ?_)
 refine ⟨by decide, _, rfl, ?_⟩
 conv => whnf
 refine mcall (T := TM prM) (φ := []) (gf := false) (hE (bs ++ [114, 101, 116, 117, 114, 110, 32]) (by (try simp only [List.length_append, List.length_cons, List.length_nil]); omega)) ?_
 repeat ((conv => whnf); first | refine known true rfl ?_ | refine known false rfl ?_)
 refine mcall (T := TM prM) (φ := []) (gf := false) (x_wbU (l := l) (bs := bs ++ [114, 101, 116, 117, 114, 110, 32] ++ p) 59 (by (try simp only [List.length_append, List.length_cons, List.length_nil]); omega)) ?_
 conv => whnf
 exact ⟨rfl, by rw [show bs ++ ([114, 101, 116, 117, 114, 110, 32] ++ p ++ [59]) = bs ++ [114, 101, 116, 117, 114, 110, 32] ++ p ++ [59] by simp]; rfl, rfl⟩
theorem x_stmt_do {i d q : Nat} {s : Bs} {v : Int} {ks : List Bs} {p : Bs} (hi : l[i]? = some ⟨18, s, v, ks, [(q : Int)]⟩) (hE : ExprOk l q 1 p) : StmtOk l i d (p ++ [59]) := by
 intro bs hb
 simp only [List.length_append, List.length_cons, List.length_nil] at hb
 have hg : (l.map ndD)[((i : Nat) : Int).toNat]? = some [.cv (.int .i64 18), .cv (.string (mk s)), .cv (.int .i64 v), .sl 1 (ks.map strD), .sl 1 (List.map intD [(q : Int)])] := by
  rw [Int.toNat_natCast, List.getElem?_map, hi]; rfl
 refine pcx Tryz.func76 (by kernel_rfl) (by kernel_rfl) ?_
 conv => whnf
 refine ⟨Int.natCast_nonneg i, _, hg, ?_⟩
 repeat ((conv => whnf); first | refine known true rfl ?_ | refine known false rfl ?_)
 refine ⟨by decide, _, rfl, ?_⟩
 conv => whnf
 refine mcall (T := TM prM) (φ := []) (gf := false) (hE (bs) (by (try simp only [List.length_append, List.length_cons, List.length_nil]); omega)) ?_
 repeat ((conv => whnf); first | refine known true rfl ?_ | refine known false rfl ?_)
 refine mcall (T := TM prM) (φ := []) (gf := false) (x_wbU (l := l) (bs := bs ++ p) 59 (by (try simp only [List.length_append]); omega)) ?_
 conv => whnf
 exact ⟨rfl, by rw [show bs ++ (p ++ [59]) = bs ++ p ++ [59] by simp]; rfl, rfl⟩
theorem x_stmt_while {i d q1 q2 : Nat} {s : Bs} {v : Int} {ks : List Bs} {p b : Bs} (hi : l[i]? = some ⟨16, s, v, ks, [(q1 : Int), (q2 : Int)]⟩) (hE : ExprOk l q1 1 p) (hB : BlockOk l q2 d b) : StmtOk l i d ([119, 104, 105, 108, 101, 32] ++ p ++ [32] ++ b) := by
 intro bs hb
 simp only [List.length_append, List.length_cons, List.length_nil] at hb
 have hg : (l.map ndD)[((i : Nat) : Int).toNat]? = some [.cv (.int .i64 16), .cv (.string (mk s)), .cv (.int .i64 v), .sl 1 (ks.map strD), .sl 1 (List.map intD [(q1 : Int), (q2 : Int)])] := by
  rw [Int.toNat_natCast, List.getElem?_map, hi]; rfl
 refine pcx Tryz.func76 (by kernel_rfl) (by kernel_rfl) ?_
 conv => whnf
 refine ⟨Int.natCast_nonneg i, _, hg, ?_⟩
 repeat ((conv => whnf); first | refine known true rfl ?_ | refine known false rfl ?_)
 refine mcall (T := TM prM) (φ := []) (gf := false) (x_wsU (l := l) (bs := bs) [119, 104, 105, 108, 101, 32] (by (try simp only [List.length_cons, List.length_nil]); omega)) ?_
 repeat ((conv => whnf); first | refine known true rfl ?_ | refine known false rfl ?_)
 refine ⟨by decide, _, rfl, ?_⟩
 conv => whnf
 refine mcall (T := TM prM) (φ := []) (gf := false) (hE (bs ++ [119, 104, 105, 108, 101, 32]) (by (try simp only [List.length_append, List.length_cons, List.length_nil]); omega)) ?_
 repeat ((conv => whnf); first | refine known true rfl ?_ | refine known false rfl ?_)
 refine mcall (T := TM prM) (φ := []) (gf := false) (x_wbU (l := l) (bs := bs ++ [119, 104, 105, 108, 101, 32] ++ p) 32 (by (try simp only [List.length_append, List.length_cons, List.length_nil]); omega)) ?_
 conv => whnf
 refine ⟨by decide, _, rfl, ?_⟩
 conv => whnf
 refine mcall (T := TM prM) (φ := []) (gf := false) (hB (bs ++ [119, 104, 105, 108, 101, 32] ++ p ++ [32]) (by (try simp only [List.length_append, List.length_cons, List.length_nil]); omega)) ?_
 conv => whnf
 refine known false rfl ?_
 conv => whnf
 exact ⟨rfl, by rw [show bs ++ ([119, 104, 105, 108, 101, 32] ++ p ++ [32] ++ b) = bs ++ [119, 104, 105, 108, 101, 32] ++ p ++ [32] ++ b by simp]; rfl, rfl⟩
theorem x_stmt_if {i d q1 q2 : Nat} {s : Bs} {v : Int} {ks : List Bs} {p b : Bs} (hi : l[i]? = some ⟨15, s, v, ks, [(q1 : Int), (q2 : Int)]⟩) (hE : ExprOk l q1 1 p) (hB : BlockOk l q2 d b) : StmtOk l i d ([105, 102, 32] ++ p ++ [32] ++ b) := by
 intro bs hb
 simp only [List.length_append, List.length_cons, List.length_nil] at hb
 have hg : (l.map ndD)[((i : Nat) : Int).toNat]? = some [.cv (.int .i64 15), .cv (.string (mk s)), .cv (.int .i64 v), .sl 1 (ks.map strD), .sl 1 (List.map intD [(q1 : Int), (q2 : Int)])] := by
  rw [Int.toNat_natCast, List.getElem?_map, hi]; rfl
 refine pcx Tryz.func76 (by kernel_rfl) (by kernel_rfl) ?_
 conv => whnf
 refine ⟨Int.natCast_nonneg i, _, hg, ?_⟩
 repeat ((conv => whnf); first | refine known true rfl ?_ | refine known false rfl ?_)
 refine mcall (T := TM prM) (φ := []) (gf := false) (x_wsU (l := l) (bs := bs) [105, 102, 32] (by (try simp only [List.length_cons, List.length_nil]); omega)) ?_
 repeat ((conv => whnf); first | refine known true rfl ?_ | refine known false rfl ?_)
 refine ⟨by decide, _, rfl, ?_⟩
 conv => whnf
 refine mcall (T := TM prM) (φ := []) (gf := false) (hE (bs ++ [105, 102, 32]) (by (try simp only [List.length_append, List.length_cons, List.length_nil]); omega)) ?_
 repeat ((conv => whnf); first | refine known true rfl ?_ | refine known false rfl ?_)
 refine mcall (T := TM prM) (φ := []) (gf := false) (x_wbU (l := l) (bs := bs ++ [105, 102, 32] ++ p) 32 (by (try simp only [List.length_append, List.length_cons, List.length_nil]); omega)) ?_
 conv => whnf
 refine ⟨by decide, _, rfl, ?_⟩
 conv => whnf
 refine mcall (T := TM prM) (φ := []) (gf := false) (hB (bs ++ [105, 102, 32] ++ p ++ [32]) (by (try simp only [List.length_append, List.length_cons, List.length_nil]); omega)) ?_
 conv => whnf
 refine known false rfl ?_
 conv => whnf
 exact ⟨rfl, by rw [show bs ++ ([105, 102, 32] ++ p ++ [32] ++ b) = bs ++ [105, 102, 32] ++ p ++ [32] ++ b by simp]; rfl, rfl⟩
theorem x_stmt_else {i d q1 q2 q3 : Nat} {s : Bs} {v : Int} {ks : List Bs} {p b e : Bs} (hi : l[i]? = some ⟨15, s, v, ks, [(q1 : Int), (q2 : Int), (q3 : Int)]⟩) (hE : ExprOk l q1 1 p) (hB : BlockOk l q2 d b) (hC : BlockOk l q3 d e) : StmtOk l i d ([105, 102, 32] ++ p ++ [32] ++ b ++ [32, 101, 108, 115, 101, 32] ++ e) := by
 intro bs hb
 simp only [List.length_append, List.length_cons, List.length_nil] at hb
 have hg : (l.map ndD)[((i : Nat) : Int).toNat]? = some [.cv (.int .i64 15), .cv (.string (mk s)), .cv (.int .i64 v), .sl 1 (ks.map strD), .sl 1 (List.map intD [(q1 : Int), (q2 : Int), (q3 : Int)])] := by
  rw [Int.toNat_natCast, List.getElem?_map, hi]; rfl
 refine pcx Tryz.func76 (by kernel_rfl) (by kernel_rfl) ?_
 conv => whnf
 refine ⟨Int.natCast_nonneg i, _, hg, ?_⟩
 repeat ((conv => whnf); first | refine known true rfl ?_ | refine known false rfl ?_)
 refine mcall (T := TM prM) (φ := []) (gf := false) (x_wsU (l := l) (bs := bs) [105, 102, 32] (by (try simp only [List.length_cons, List.length_nil]); omega)) ?_
 repeat ((conv => whnf); first | refine known true rfl ?_ | refine known false rfl ?_)
 refine ⟨by decide, _, rfl, ?_⟩
 conv => whnf
 refine mcall (T := TM prM) (φ := []) (gf := false) (hE (bs ++ [105, 102, 32]) (by (try simp only [List.length_append, List.length_cons, List.length_nil]); omega)) ?_
 repeat ((conv => whnf); first | refine known true rfl ?_ | refine known false rfl ?_)
 refine mcall (T := TM prM) (φ := []) (gf := false) (x_wbU (l := l) (bs := bs ++ [105, 102, 32] ++ p) 32 (by (try simp only [List.length_append, List.length_cons, List.length_nil]); omega)) ?_
 conv => whnf
 refine ⟨by decide, _, rfl, ?_⟩
 conv => whnf
 refine mcall (T := TM prM) (φ := []) (gf := false) (hB (bs ++ [105, 102, 32] ++ p ++ [32]) (by (try simp only [List.length_append, List.length_cons, List.length_nil]); omega)) ?_
 conv => whnf
 refine known true rfl ?_
 conv => whnf
 refine mcall (T := TM prM) (φ := []) (gf := false) (x_wsU (l := l) (bs := bs ++ [105, 102, 32] ++ p ++ [32] ++ b) [32, 101, 108, 115, 101, 32] (by (try simp only [List.length_append, List.length_cons, List.length_nil]); omega)) ?_
 conv => whnf
 refine ⟨by decide, _, rfl, ?_⟩
 conv => whnf
 refine mcall (T := TM prM) (φ := []) (gf := false) (hC (bs ++ [105, 102, 32] ++ p ++ [32] ++ b ++ [32, 101, 108, 115, 101, 32]) (by (try simp only [List.length_append, List.length_cons, List.length_nil]); omega)) ?_
 conv => whnf
 exact ⟨rfl, by rw [show bs ++ ([105, 102, 32] ++ p ++ [32] ++ b ++ [32, 101, 108, 115, 101, 32] ++ e) = bs ++ [105, 102, 32] ++ p ++ [32] ++ b ++ [32, 101, 108, 115, 101, 32] ++ e by simp]; rfl, rfl⟩
end
end Go.Proofs.YtglndfgmlminpaaGreatDoor
