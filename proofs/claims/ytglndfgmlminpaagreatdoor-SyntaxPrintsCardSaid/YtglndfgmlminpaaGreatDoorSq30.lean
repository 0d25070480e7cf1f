/- Texts joined by pack.py: XSyXF -/
import Derived.Test.YtglndfgmlminpaaGreatDoorSq27
set_option maxHeartbeats 8000000
set_option maxRecDepth 100000
namespace Go.Proofs.YtglndfgmlminpaaGreatDoor
open Go.RowKit
section
variable {l : List Nd}
theorem x_bare_bin {i q1 q2 : Nat} {s : Bs} {v : Int} {ks : List Bs} {p1 p2 : Bs} (hi : l[i]? = some ⟨9, s, v, ks, [(q1 : Int), (q2 : Int)]⟩) (hs : s.length ≤ 1000) (h1 : bz_ l q1 (if b1_ s = 4 then 5 else b1_ s) p1) (h2 : bz_ l q2 (b1_ s + 1) p2) (hbl : -1000 ≤ b1_ s ∧ b1_ s ≤ 1000) : d2_ l i (p1 ++ 32 :: (s ++ 32 :: p2)) := by
 intro bs hb
 have hg : (l.map ndD)[((i : Nat) : Int).toNat]? = some [.cv (.int .i64 9), .cv (.string (mk s)), .cv (.int .i64 v), .sl 1 (ks.map bl_), .sl 1 (List.map ae_ [(q1 : Int), (q2 : Int)])] := by
  rw [i_, e_, hi]; rfl
 refine pcx Tryz.func161 kR kR ?_
 conv => whnf
 refine ⟨g_ i, _, hg, ?_⟩
 repeat ((conv => whnf); first | refine kT ?_ | refine kF ?_)
 refine T_ (T := TM prM) (φ := []) (gf := false) (x_oper (l := l) (k := 9) (v := v) (ks := ks) hs h1 h2 hbl bs hb) ?_
 conv => whnf
 exact ⟨rfl, rfl, rfl⟩
theorem p8_ {i q1 q2 : Nat} {s : Bs} {v : Int} {ks : List Bs} {p1 p2 : Bs} (hi : l[i]? = some ⟨10, s, v, ks, [(q1 : Int), (q2 : Int)]⟩) (h1 : bz_ l q1 8 p1) (h2 : bz_ l q2 1 p2) : d2_ l i (p1 ++ 91 :: (p2 ++ [93])) := by
 intro bs hb
 simp only [a_, b_, c_] at hb
 have hg : (l.map ndD)[((i : Nat) : Int).toNat]? = some [.cv (.int .i64 10), .cv (.string (mk s)), .cv (.int .i64 v), .sl 1 (ks.map bl_), .sl 1 (List.map ae_ [(q1 : Int), (q2 : Int)])] := by
  rw [i_, e_, hi]; rfl
 refine pcx Tryz.func161 kR kR ?_
 conv => whnf
 refine ⟨g_ i, _, hg, ?_⟩
 repeat ((conv => whnf); first | refine kT ?_ | refine kF ?_)
 refine ⟨none, kR, ?_⟩
 conv => whnf
 refine ⟨dC, _, rfl, ?_⟩
 conv => whnf
 refine T_ (T := TM prM) (φ := []) (gf := false) (h1 bs oM) ?_
 conv => whnf
 refine T_ (T := TM prM) (φ := []) (gf := false) (e4_ (l := l) (bs := bs ++ p1) 91 (by (try simp only [a_]); omega)) ?_
 conv => whnf
 refine ⟨none, kR, ?_⟩
 conv => whnf
 refine ⟨dC, _, rfl, ?_⟩
 conv => whnf
 refine T_ (T := TM prM) (φ := []) (gf := false) (h2 (bs ++ p1 ++ [91]) oL) ?_
 conv => whnf
 refine T_ (T := TM prM) (φ := []) (gf := false) (e4_ (l := l) (bs := bs ++ p1 ++ [91] ++ p2) 93 oL) ?_
 conv => whnf
 exact ⟨rfl, by rw [show bs ++ (p1 ++ 91 :: (p2 ++ [93])) = bs ++ p1 ++ [91] ++ p2 ++ [93] by simp]; rfl, rfl⟩
theorem x_bare_call {i : Nat} {s : Bs} {v : Int} {ks : List Bs} {js : List Int} {ps : List Bs} (hi : l[i]? = some ⟨11, s, v, ks, js⟩) (hl : js.length = ps.length) (hn : ps.length ≤ 1000000) (hP : ∀ (j : Nat) (h : j < ps.length), ∃ q : Nat, js[j]? = some (q : Int) ∧ bz_ l q 1 ps[j]) : d2_ l i (s ++ 40 :: (bf_ ps ++ [41])) := by
 intro bs hb
 simp only [a_, b_, c_] at hb
 have hg : (l.map ndD)[((i : Nat) : Int).toNat]? = some [.cv (.int .i64 11), .cv (.string (mk s)), .cv (.int .i64 v), .sl 1 (ks.map bl_), .sl 1 (List.map ae_ js)] := by
  rw [i_, e_, hi]; rfl
 refine pcx Tryz.func161 kR kR ?_
 conv => whnf
 refine ⟨g_ i, _, hg, ?_⟩
 repeat ((conv => whnf); first | refine kT ?_ | refine kF ?_)
 refine ⟨none, kR, ?_⟩
 conv => whnf
 refine T_ (T := TM prM) (φ := []) (gf := false) (el_ (l := l) (bs := bs) s oL) ?_
 conv => whnf
 refine T_ (T := TM prM) (φ := []) (gf := false) (x_pcall (l := l) (n := ⟨11, s, v, ks, js⟩) hl hn hP (bs ++ s) oL) ?_
 conv => whnf
 exact ⟨rfl, by rw [show bs ++ (s ++ 40 :: (bf_ ps ++ [41])) = bs ++ s ++ 40 :: (bf_ ps ++ [41]) by simp]; rfl, rfl⟩
theorem x_bare_host {i : Nat} {s : Bs} {v : Int} {ks : List Bs} {js : List Int} {ps : List Bs} (hi : l[i]? = some ⟨12, s, v, ks, js⟩) (hs : s.length ≤ 1000) (hl : js.length = ps.length) (hn : ps.length ≤ 1000000) (hP : ∀ (j : Nat) (h : j < ps.length), ∃ q : Nat, js[j]? = some (q : Int) ∧ bz_ l q 1 ps[j]) : d2_ l i (64 :: (s ++ 40 :: (bf_ ps ++ [41]))) := by
 intro bs hb
 simp only [a_, b_, c_] at hb
 have hg : (l.map ndD)[((i : Nat) : Int).toNat]? = some [.cv (.int .i64 12), .cv (.string (mk s)), .cv (.int .i64 v), .sl 1 (ks.map bl_), .sl 1 (List.map ae_ js)] := by
  rw [i_, e_, hi]; rfl
 refine pcx Tryz.func161 kR kR ?_
 conv => whnf
 refine ⟨g_ i, _, hg, ?_⟩
 repeat ((conv => whnf); first | refine kT ?_ | refine kF ?_)
 refine ⟨none, kR, ?_⟩
 conv => whnf
 refine ⟨by rw [P_, cu_]; show 1 + _ ≤ _; omega, ?_⟩
 conv => whnf
 rw [catL]
 refine T_ (T := TM prM) (φ := []) (gf := false) (el_ (l := l) (bs := bs) ([64] ++ s) oL) ?_
 conv => whnf
 refine T_ (T := TM prM) (φ := []) (gf := false) (x_pcall (l := l) (n := ⟨12, s, v, ks, js⟩) hl hn hP (bs ++ ([64] ++ s)) oL) ?_
 conv => whnf
 exact ⟨rfl, by rw [show bs ++ 64 :: (s ++ 40 :: (bf_ ps ++ [41])) = bs ++ ([64] ++ s) ++ 40 :: (bf_ ps ++ [41]) by simp]; rfl, rfl⟩
end
end Go.Proofs.YtglndfgmlminpaaGreatDoor
