/- Texts joined by pack.py: XSyXH -/
import Derived.Test.YtglndfgmlminpaaGreatDoorSq27
set_option maxHeartbeats 8000000
set_option maxRecDepth 100000
namespace Go.Proofs.YtglndfgmlminpaaGreatDoor
open Go.RowKit
section
variable {l : List Nd}
theorem x_stmt_let {i d q : Nat} {s : Bs} {v : Int} {ks : List Bs} {p : Bs} (hi : l[i]? = some ⟨13, s, v, ks, [(q : Int)]⟩) (hs : s.length ≤ 1000) (hE : bz_ l q 1 p) : ir_ l i d ([108, 101, 116, 32] ++ s ++ [32, 61, 32] ++ p ++ [59]) := by
 intro bs hb
 simp only [a_, b_, c_] at hb
 have hg : (l.map ndD)[((i : Nat) : Int).toNat]? = some [.cv (.int .i64 13), .cv (.string (mk s)), .cv (.int .i64 v), .sl 1 (ks.map bl_), .sl 1 (List.map ae_ [(q : Int)])] := by
  rw [i_, e_, hi]; rfl
 refine pcx Tryz.func76 kR kR ?_
 conv => whnf
 refine ⟨g_ i, _, hg, ?_⟩
 repeat ((conv => whnf); first | refine kT ?_ | refine kF ?_)
 refine ⟨none, kR, ?_⟩
 conv => whnf
 refine ⟨by rw [P_, cu_]; show 4 + _ ≤ _; omega, ?_⟩
 conv => whnf
 rw [catL]
 refine ⟨by rw [P_, cu_, a_]; show 4 + _ + 3 ≤ _; omega, ?_⟩
 conv => whnf
 rw [e3_]
 refine T_ (T := TM prM) (φ := []) (gf := false) (el_ (l := l) (bs := bs) ([108, 101, 116, 32] ++ s ++ [32, 61, 32]) oL) ?_
 repeat ((conv => whnf); first | refine kT ?_ | refine kF ?_)
 refine ⟨dC, _, rfl, ?_⟩
 conv => whnf
 refine T_ (T := TM prM) (φ := []) (gf := false) (hE (bs ++ ([108, 101, 116, 32] ++ s ++ [32, 61, 32])) oL) ?_
 repeat ((conv => whnf); first | refine kT ?_ | refine kF ?_)
 refine T_ (T := TM prM) (φ := []) (gf := false) (e4_ (l := l) (bs := bs ++ ([108, 101, 116, 32] ++ s ++ [32, 61, 32]) ++ p) 59 oL) ?_
 conv => whnf
 exact ⟨rfl, by rw [show bs ++ ([108, 101, 116, 32] ++ s ++ [32, 61, 32] ++ p ++ [59]) = bs ++ ([108, 101, 116, 32] ++ s ++ [32, 61, 32]) ++ p ++ [59] by simp]; rfl, rfl⟩
theorem x_stmt_set {i d q : Nat} {s : Bs} {v : Int} {ks : List Bs} {p : Bs} (hi : l[i]? = some ⟨14, s, v, ks, [(q : Int)]⟩) (hs : s.length ≤ 1000) (hE : bz_ l q 1 p) : ir_ l i d (s ++ [32, 61, 32] ++ p ++ [59]) := by
 intro bs hb
 simp only [a_, b_, c_] at hb
 have hg : (l.map ndD)[((i : Nat) : Int).toNat]? = some [.cv (.int .i64 14), .cv (.string (mk s)), .cv (.int .i64 v), .sl 1 (ks.map bl_), .sl 1 (List.map ae_ [(q : Int)])] := by
  rw [i_, e_, hi]; rfl
 refine pcx Tryz.func76 kR kR ?_
 conv => whnf
 refine ⟨g_ i, _, hg, ?_⟩
 repeat ((conv => whnf); first | refine kT ?_ | refine kF ?_)
 refine ⟨none, kR, ?_⟩
 conv => whnf
 refine ⟨by rw [P_, cu_]; show _ + 3 ≤ _; omega, ?_⟩
 conv => whnf
 rw [e3_]
 refine T_ (T := TM prM) (φ := []) (gf := false) (el_ (l := l) (bs := bs) (s ++ [32, 61, 32]) oL) ?_
 repeat ((conv => whnf); first | refine kT ?_ | refine kF ?_)
 refine ⟨dC, _, rfl, ?_⟩
 conv => whnf
 refine T_ (T := TM prM) (φ := []) (gf := false) (hE (bs ++ (s ++ [32, 61, 32])) oL) ?_
 repeat ((conv => whnf); first | refine kT ?_ | refine kF ?_)
 refine T_ (T := TM prM) (φ := []) (gf := false) (e4_ (l := l) (bs := bs ++ (s ++ [32, 61, 32]) ++ p) 59 oL) ?_
 conv => whnf
 exact ⟨rfl, by rw [show bs ++ (s ++ [32, 61, 32] ++ p ++ [59]) = bs ++ (s ++ [32, 61, 32]) ++ p ++ [59] by simp]; rfl, rfl⟩
theorem x_stmt_ret {i d q : Nat} {s : Bs} {v : Int} {ks : List Bs} {p : Bs} (hi : l[i]? = some ⟨17, s, v, ks, [(q : Int)]⟩) (hE : bz_ l q 1 p) : ir_ l i d ([114, 101, 116, 117, 114, 110, 32] ++ p ++ [59]) := by
 intro bs hb
 simp only [a_, b_, c_] at hb
 have hg : (l.map ndD)[((i : Nat) : Int).toNat]? = some [.cv (.int .i64 17), .cv (.string (mk s)), .cv (.int .i64 v), .sl 1 (ks.map bl_), .sl 1 (List.map ae_ [(q : Int)])] := by
  rw [i_, e_, hi]; rfl
 refine pcx Tryz.func76 kR kR ?_
 conv => whnf
 refine ⟨g_ i, _, hg, ?_⟩
 repeat ((conv => whnf); first | refine kT ?_ | refine kF ?_)
 refine T_ (T := TM prM) (φ := []) (gf := false) (el_ (l := l) (bs := bs) [114, 101, 116, 117, 114, 110, 32] (by (try simp only [b_, c_]); omega)) ?_
 repeat ((conv => whnf); first | refine kT ?_ | refine kF ?_)
 refine ⟨dC, _, rfl, ?_⟩
 conv => whnf
 refine T_ (T := TM prM) (φ := []) (gf := false) (hE (bs ++ [114, 101, 116, 117, 114, 110, 32]) oL) ?_
 repeat ((conv => whnf); first | refine kT ?_ | refine kF ?_)
 refine T_ (T := TM prM) (φ := []) (gf := false) (e4_ (l := l) (bs := bs ++ [114, 101, 116, 117, 114, 110, 32] ++ p) 59 oL) ?_
 conv => whnf
 exact ⟨rfl, by rw [show bs ++ ([114, 101, 116, 117, 114, 110, 32] ++ p ++ [59]) = bs ++ [114, 101, 116, 117, 114, 110, 32] ++ p ++ [59] by simp]; rfl, rfl⟩
theorem x_stmt_do {i d q : Nat} {s : Bs} {v : Int} {ks : List Bs} {p : Bs} (hi : l[i]? = some ⟨18, s, v, ks, [(q : Int)]⟩) (hE : bz_ l q 1 p) : ir_ l i d (p ++ [59]) := by
 intro bs hb
 simp only [a_, b_, c_] at hb
 have hg : (l.map ndD)[((i : Nat) : Int).toNat]? = some [.cv (.int .i64 18), .cv (.string (mk s)), .cv (.int .i64 v), .sl 1 (ks.map bl_), .sl 1 (List.map ae_ [(q : Int)])] := by
  rw [i_, e_, hi]; rfl
 refine pcx Tryz.func76 kR kR ?_
 conv => whnf
 refine ⟨g_ i, _, hg, ?_⟩
 repeat ((conv => whnf); first | refine kT ?_ | refine kF ?_)
 refine ⟨dC, _, rfl, ?_⟩
 conv => whnf
 refine T_ (T := TM prM) (φ := []) (gf := false) (hE (bs) oL) ?_
 repeat ((conv => whnf); first | refine kT ?_ | refine kF ?_)
 refine T_ (T := TM prM) (φ := []) (gf := false) (e4_ (l := l) (bs := bs ++ p) 59 (by (try simp only [a_]); omega)) ?_
 conv => whnf
 exact ⟨rfl, by rw [show bs ++ (p ++ [59]) = bs ++ p ++ [59] by simp]; rfl, rfl⟩
theorem pw_ {i d q1 q2 : Nat} {s : Bs} {v : Int} {ks : List Bs} {p b : Bs} (hi : l[i]? = some ⟨16, s, v, ks, [(q1 : Int), (q2 : Int)]⟩) (hE : bz_ l q1 1 p) (hB : gr_ l q2 d b) : ir_ l i d ([119, 104, 105, 108, 101, 32] ++ p ++ [32] ++ b) := by
 intro bs hb
 simp only [a_, b_, c_] at hb
 have hg : (l.map ndD)[((i : Nat) : Int).toNat]? = some [.cv (.int .i64 16), .cv (.string (mk s)), .cv (.int .i64 v), .sl 1 (ks.map bl_), .sl 1 (List.map ae_ [(q1 : Int), (q2 : Int)])] := by
  rw [i_, e_, hi]; rfl
 refine pcx Tryz.func76 kR kR ?_
 conv => whnf
 refine ⟨g_ i, _, hg, ?_⟩
 repeat ((conv => whnf); first | refine kT ?_ | refine kF ?_)
 refine T_ (T := TM prM) (φ := []) (gf := false) (el_ (l := l) (bs := bs) [119, 104, 105, 108, 101, 32] (by (try simp only [b_, c_]); omega)) ?_
 repeat ((conv => whnf); first | refine kT ?_ | refine kF ?_)
 refine ⟨dC, _, rfl, ?_⟩
 conv => whnf
 refine T_ (T := TM prM) (φ := []) (gf := false) (hE (bs ++ [119, 104, 105, 108, 101, 32]) oL) ?_
 repeat ((conv => whnf); first | refine kT ?_ | refine kF ?_)
 refine T_ (T := TM prM) (φ := []) (gf := false) (e4_ (l := l) (bs := bs ++ [119, 104, 105, 108, 101, 32] ++ p) 32 oL) ?_
 conv => whnf
 refine ⟨dC, _, rfl, ?_⟩
 conv => whnf
 refine T_ (T := TM prM) (φ := []) (gf := false) (hB (bs ++ [119, 104, 105, 108, 101, 32] ++ p ++ [32]) oL) ?_
 conv => whnf
 refine kF ?_
 conv => whnf
 exact ⟨rfl, by rw [show bs ++ ([119, 104, 105, 108, 101, 32] ++ p ++ [32] ++ b) = bs ++ [119, 104, 105, 108, 101, 32] ++ p ++ [32] ++ b by simp]; rfl, rfl⟩
theorem x_stmt_if {i d q1 q2 : Nat} {s : Bs} {v : Int} {ks : List Bs} {p b : Bs} (hi : l[i]? = some ⟨15, s, v, ks, [(q1 : Int), (q2 : Int)]⟩) (hE : bz_ l q1 1 p) (hB : gr_ l q2 d b) : ir_ l i d ([105, 102, 32] ++ p ++ [32] ++ b) := by
 intro bs hb
 simp only [a_, b_, c_] at hb
 have hg : (l.map ndD)[((i : Nat) : Int).toNat]? = some [.cv (.int .i64 15), .cv (.string (mk s)), .cv (.int .i64 v), .sl 1 (ks.map bl_), .sl 1 (List.map ae_ [(q1 : Int), (q2 : Int)])] := by
  rw [i_, e_, hi]; rfl
 refine pcx Tryz.func76 kR kR ?_
 conv => whnf
 refine ⟨g_ i, _, hg, ?_⟩
 repeat ((conv => whnf); first | refine kT ?_ | refine kF ?_)
 refine T_ (T := TM prM) (φ := []) (gf := false) (el_ (l := l) (bs := bs) [105, 102, 32] (by (try simp only [b_, c_]); omega)) ?_
 repeat ((conv => whnf); first | refine kT ?_ | refine kF ?_)
 refine ⟨dC, _, rfl, ?_⟩
 conv => whnf
 refine T_ (T := TM prM) (φ := []) (gf := false) (hE (bs ++ [105, 102, 32]) oL) ?_
 repeat ((conv => whnf); first | refine kT ?_ | refine kF ?_)
 refine T_ (T := TM prM) (φ := []) (gf := false) (e4_ (l := l) (bs := bs ++ [105, 102, 32] ++ p) 32 oL) ?_
 conv => whnf
 refine ⟨dC, _, rfl, ?_⟩
 conv => whnf
 refine T_ (T := TM prM) (φ := []) (gf := false) (hB (bs ++ [105, 102, 32] ++ p ++ [32]) oL) ?_
 conv => whnf
 refine kF ?_
 conv => whnf
 exact ⟨rfl, by rw [show bs ++ ([105, 102, 32] ++ p ++ [32] ++ b) = bs ++ [105, 102, 32] ++ p ++ [32] ++ b by simp]; rfl, rfl⟩
theorem x_stmt_else {i d q1 q2 q3 : Nat} {s : Bs} {v : Int} {ks : List Bs} {p b e : Bs} (hi : l[i]? = some ⟨15, s, v, ks, [(q1 : Int), (q2 : Int), (q3 : Int)]⟩) (hE : bz_ l q1 1 p) (hB : gr_ l q2 d b) (hC : gr_ l q3 d e) : ir_ l i d ([105, 102, 32] ++ p ++ [32] ++ b ++ [32, 101, 108, 115, 101, 32] ++ e) := by
 intro bs hb
 simp only [a_, b_, c_] at hb
 have hg : (l.map ndD)[((i : Nat) : Int).toNat]? = some [.cv (.int .i64 15), .cv (.string (mk s)), .cv (.int .i64 v), .sl 1 (ks.map bl_), .sl 1 (List.map ae_ [(q1 : Int), (q2 : Int), (q3 : Int)])] := by
  rw [i_, e_, hi]; rfl
 refine pcx Tryz.func76 kR kR ?_
 conv => whnf
 refine ⟨g_ i, _, hg, ?_⟩
 repeat ((conv => whnf); first | refine kT ?_ | refine kF ?_)
 refine T_ (T := TM prM) (φ := []) (gf := false) (el_ (l := l) (bs := bs) [105, 102, 32] (by (try simp only [b_, c_]); omega)) ?_
 repeat ((conv => whnf); first | refine kT ?_ | refine kF ?_)
 refine ⟨dC, _, rfl, ?_⟩
 conv => whnf
 refine T_ (T := TM prM) (φ := []) (gf := false) (hE (bs ++ [105, 102, 32]) oL) ?_
 repeat ((conv => whnf); first | refine kT ?_ | refine kF ?_)
 refine T_ (T := TM prM) (φ := []) (gf := false) (e4_ (l := l) (bs := bs ++ [105, 102, 32] ++ p) 32 oL) ?_
 conv => whnf
 refine ⟨dC, _, rfl, ?_⟩
 conv => whnf
 refine T_ (T := TM prM) (φ := []) (gf := false) (hB (bs ++ [105, 102, 32] ++ p ++ [32]) oL) ?_
 conv => whnf
 refine kT ?_
 conv => whnf
 refine T_ (T := TM prM) (φ := []) (gf := false) (el_ (l := l) (bs := bs ++ [105, 102, 32] ++ p ++ [32] ++ b) [32, 101, 108, 115, 101, 32] oL) ?_
 conv => whnf
 refine ⟨dC, _, rfl, ?_⟩
 conv => whnf
 refine T_ (T := TM prM) (φ := []) (gf := false) (hC (bs ++ [105, 102, 32] ++ p ++ [32] ++ b ++ [32, 101, 108, 115, 101, 32]) oL) ?_
 conv => whnf
 exact ⟨rfl, by rw [show bs ++ ([105, 102, 32] ++ p ++ [32] ++ b ++ [32, 101, 108, 115, 101, 32] ++ e) = bs ++ [105, 102, 32] ++ p ++ [32] ++ b ++ [32, 101, 108, 115, 101, 32] ++ e by simp]; rfl, rfl⟩
end
end Go.Proofs.YtglndfgmlminpaaGreatDoor
