/- Texts joined by pack.py: XSyA XSyB XSyD XSyE -/
import Derived.Test.YtglndfgmlminpaaGreatDoorSq32
import Derived.Test.YtglndfgmlminpaaGreatDoorSq33
set_option maxHeartbeats 8000000
set_option maxRecDepth 100000
namespace Go.Proofs.YtglndfgmlminpaaGreatDoor
section
open Go.RowKit
def ab_ : List (Nat × Bool) := [(136, false), (94, false), (53, false), (95, false), (96, false),
 (54, false), (264, false), (268, false), (265, false), (269, false),
 (259, false), (255, false), (249, false), (173, false), (237, false), (218, false),
 (201, false), (174, false), (139, false), (140, false), (137, false), (138, false),
 (97, false), (56, false), (26, false), (55, false)]
theorem me_ {f : FuncId} {fn : Func} (hf : Tryz.prog.funcs[f]? = some fn) (hn : (fn.name == "runtime.NumGoroutine") = false) {args : List V} {m : List Bk} {out : Except Value (V × List Bk)} (h16 : (decide (args.length ≤ fn.ntmps) && decide (m.length ≤ 16)) = true)
  (h : BodyE (fun vs => vs.flatMap V.bn) Tryz.prog (TM ab_) fn args m out) : gq_ Tryz.prog f args m out :=
 mends_of (tokM ab_) mixed hf hn h16 h
theorem mpsx {f : FuncId} {fn : Func} (hf : Tryz.prog.funcs[f]? = some fn) (hn : (fn.name == "runtime.NumGoroutine") = false) {args : List V} {m : List Bk} {p : Value} (h16 : (decide (args.length ≤ fn.ntmps) && decide (m.length ≤ 16)) = true)
  (h : BodyE (fun vs => vs.flatMap V.bn) Tryz.prog (TM ab_) fn args m (.error p)) : g4_ Tryz.prog f args m p :=
 mends_of (out := .error p) (tokM ab_) mixed hf hn h16 h
theorem mcx {f : FuncId} {fn : Func} (hf : Tryz.prog.funcs[f]? = some fn) (hn : (fn.name == "runtime.NumGoroutine") = false) {args : List V} {m : List Bk} {res : V} {m' : List Bk} (h16 : (decide (args.length ≤ fn.ntmps) && decide (m.length ≤ 16)) = true)
  (h : BodyM (fun vs => vs.flatMap V.bn) Tryz.prog (TM ab_) fn args m res m') : bm_ Tryz.prog f args m res m' :=
 ib_ (tokM ab_) mixed hf hn h16 h
abbrev kg_ (l : List Tok) (k : Nat) (e : Int) (n1 n2 : Nat) : Bk := .box [.sl false 4 (l.map mi_), int (k : Nat), int e, .ow n1 0, .ow n2 0]
abbrev kh_ (ns : List Nd) : Bk := .row 0 58 5 false (ns.map ndD)
abbrev km_ (fs : List Fc) : Bk := .row 0 53 3 false (fs.map fcD)
abbrev pM (l : List Tok) (k : Nat) (e : Int) (ns : List Nd) (fs : List Fc) : List Bk := [kg_ l k e 1 2, kh_ ns, km_ fs]
abbrev tsV (ts : List Bs) : V := .sl false 1 (ts.map bl_)
abbrev dj_ (o : Int) : Value := .iface 47 (.agg #[.int .i64 o])
def outP (l : List Tok) (e : Int) (fs : List Fc) : hq_ Int → Except Value (V × List Bk)
 | .ok (i, r1, ns1) => .ok (int i, pM l (l.length - r1.length) e ns1 fs)
 | .error o => .error (dj_ o)
def ak_ (k : Int) (ts : List Bs) : List Tok → Bool
 | [] => false
 | t :: _ => decide (t.kind = k) && (ts.isEmpty || ts.contains t.text)
section
variable {l : List Tok} {k : Nat} {e : Int} {ns : List Nd} {fs : List Fc}
theorem c6_ (K : Int) (ts : List Bs) (h : k < l.length) : ak_ K ts (l.drop k) = (decide (l[k].kind = K) && (ts.isEmpty || ts.contains l[k].text)) := by
 rw [r_ h]; rfl
theorem lh_ (K : Int) (ts : List Bs) (h : l.length ≤ k) : ak_ K ts (l.drop k) = false := by
 rw [k_ h]; rfl
theorem hz_ (K : Int) (ts : List Bs) (_hk : k ≤ l.length) (_hl : l.length ≤ 1000000) (ht : ts.length ≤ 100) : bm_ Tryz.prog 136 [.bx 0 0, int K, tsV ts] (pM l k e ns fs) (boo (ak_ K ts (l.drop k))) (pM l k e ns fs) := by
 have hll : (l.map mi_).length = l.length := d_ _
 refine mcx Tryz.func136 kR kR ?_
 conv => whnf
 refine ⟨none, kR, ?_⟩
 rcases s_ k l.length with h | h
 rotate_left
 ·rw [lh_ K ts h]
  conv => whnf
  refine Q_ false sO ?_
  repeat ((conv => whnf); first | refine kT ?_ | refine kF ?_)
  conv => whnf
  exact ⟨rfl, rfl, rfl⟩
 rw [c6_ K ts h]
 conv => whnf
 refine Q_ true sO ?_
 conv => whnf
 refine ⟨oM, _, W_ mi_ h, ?_⟩
 conv => whnf
 rintro (_ | _) h1
 ·rw [show decide (l[k].kind = K) = false from by simpa using h1, u_]
  repeat ((conv => whnf); first | refine kT ?_ | refine kF ?_)
  conv => whnf
  exact ⟨rfl, rfl, rfl⟩
 rw [show decide (l[k].kind = K) = true from by simpa using h1, n_]
 cases ts with
 | nil =>
  repeat ((conv => whnf); first | refine kT ?_ | refine kF ?_)
  conv => whnf
  exact ⟨rfl, rfl, rfl⟩
 | cons t0 ts =>
  conv => whnf
  refine Q_ false sO ?_
  conv => whnf
  refine ⟨oM, _, W_ mi_ h, ?_⟩
  conv => whnf
  refine ⟨_, x_containsS (t0 :: ts) l[k].text oM, ?_⟩
  rw [show ((t0 :: ts).isEmpty || (t0 :: ts).contains l[k].text) = (t0 :: ts).contains l[k].text from rfl]
  generalize (t0 :: ts).contains l[k].text = b
  repeat ((conv => whnf); first | refine kT ?_ | refine kF ?_)
  conv => whnf
  exact ⟨rfl, rfl, rfl⟩
theorem ac_ {K : Int} {ts : List Bs} (h : ak_ K ts (l.drop k) = true) : k < l.length := by
 rcases s_ k l.length with h1 | h1
 ·exact h1
 ·rw [lh_ K ts h1] at h; cases h
theorem offT_at (h : k < l.length) : fh_ e (l.drop k) = l[k].at_ := by rw [r_ h]; rfl
theorem offT_end (h : l.length ≤ k) : fh_ e (l.drop k) = e := by rw [k_ h]; rfl
def lineP : Nat → Nat → Plan → Plan
 | 0, _, p => p
 | n + 1, i, p => .one i (lineP n (i + 1) p)
theorem x_fail (_hl : l.length ≤ 1000000) : g4_ Tryz.prog 95 [.bx 0 0] (pM l k e ns fs) (dj_ (fh_ e (l.drop k))) := by
 have hll : (l.map mi_).length = l.length := d_ _
 refine mpsx Tryz.func95 kR kR ?_
 conv => whnf
 refine ⟨none, kR, ?_⟩
 rcases s_ k l.length with h | h
 ·rw [offT_at h]
  conv => whnf
  refine Q_ true sO ?_
  conv => whnf
  refine ⟨some (lineP 13 0 (.alt 13 .done .stop)), kR, ?_⟩
  conv => whnf
  refine ⟨oM, _, W_ mi_ h, ?_⟩
  conv => whnf
  refine ⟨.inr ?_, trivial⟩
  exact pan_op rfl
 ·rw [offT_end h]
  conv => whnf
  refine Q_ false sO ?_
  conv => whnf
  refine .inr ?_
  exact pan_op rfl
theorem b6_ {K : Int} {ts : List Bs} (hl : l.length ≤ 1000000) (ht : ts.length ≤ 100) (h : ak_ K ts (l.drop k) = true) (hk : k < l.length) :
  bm_ Tryz.prog 94 [.bx 0 0, int K, tsV ts] (pM l k e ns fs) (.tu [l[k].V, boo true]) (pM l (k + 1) e ns fs) := by
 have hw : IntKind.i64.wrap (((k : Nat) : Int) + 1) = ((k + 1 : Nat) : Int) := R_ oM
 have hw2 : IntKind.i64.wrap (((k + 1 : Nat) : Int) - 1) = (k : Int) := by rw [ci_ oM]; omega
 refine mcx Tryz.func94 kR kR ?_
 conv => whnf
 refine T_ (T := TM ab_) (φ := []) (gf := false) (hz_ K ts (Nat.le_of_lt hk) hl ht) ?_
 rw [h]
 conv => whnf
 refine kF ?_
 conv => whnf
 rw [hw]
 conv => whnf
 refine ⟨none, kR, ?_⟩
 conv => whnf
 rw [hw2]
 conv => whnf
 refine ⟨oM, _, W_ mi_ hk, ?_⟩
 conv => whnf
 exact ⟨rfl, rfl, rfl⟩
theorem b7_ {K : Int} {ts : List Bs} (hl : l.length ≤ 1000000) (ht : ts.length ≤ 100) (h : ak_ K ts (l.drop k) = false) (hk : k ≤ l.length) :
  bm_ Tryz.prog 94 [.bx 0 0, int K, tsV ts] (pM l k e ns fs) (.tu [noTok.V, boo false]) (pM l k e ns fs) := by
 refine mcx Tryz.func94 kR kR ?_
 conv => whnf
 refine T_ (T := TM ab_) (φ := []) (gf := false) (hz_ K ts hk hl ht) ?_
 rw [h]
 conv => whnf
 refine kT ?_
 conv => whnf
 exact ⟨rfl, rfl, rfl⟩
theorem br_ {K : Int} {ts : List Bs} (hl : l.length ≤ 1000000) (ht : ts.length ≤ 100) (h : ak_ K ts (l.drop k) = true) (hk : k < l.length) :
  bm_ Tryz.prog 53 [.bx 0 0, int K, tsV ts] (pM l k e ns fs) l[k].V (pM l (k + 1) e ns fs) := by
 refine mcx Tryz.func53 kR kR ?_
 conv => whnf
 refine T_ (T := TM ab_) (φ := []) (gf := false) (b6_ hl ht h hk) ?_
 conv => whnf
 refine kF ?_
 conv => whnf
 exact ⟨rfl, rfl, rfl⟩
theorem ch_ {K : Int} {ts : List Bs} (hl : l.length ≤ 1000000) (ht : ts.length ≤ 100) (h : ak_ K ts (l.drop k) = false) (hk : k ≤ l.length) :
  g4_ Tryz.prog 53 [.bx 0 0, int K, tsV ts] (pM l k e ns fs) (dj_ (fh_ e (l.drop k))) := by
 refine mpsx Tryz.func53 kR kR ?_
 conv => whnf
 refine .inl ?_
 conv => whnf
 refine T_ (T := TM ab_) (φ := []) (gf := false) (b7_ hl ht h hk) ?_
 conv => whnf
 refine kT ?_
 conv => whnf
 refine .inr ?_
 exact co_ (T := TM ab_) (x_fail hl) rfl
abbrev ndV (n : Nd) : V := .ag [int n.kind, bc_ n.text, int n.val, .sl false 1 (n.keys.map bl_), .sl false 1 (n.kids.map ae_)]
theorem dr_ (n : Nd) (hn : ns.length ≤ 1000000) :
  bm_ Tryz.prog 96 [.bx 0 0, ndV n] (pM l k e ns fs) (int (ns.length : Nat)) (pM l k e (ns ++ [n]) fs) := by
 have e1 : pM l k e (ns ++ [n]) fs = [kg_ l k e 1 2, .row 0 58 5 false (ns.map ndD ++ [ndD n]), km_ fs] := by simp only [pM, kh_, List.map_append, List.map_cons, List.map_nil]
 have e2 : int (ns.length : Nat) = int (IntKind.i64.wrap ((((ns.map ndD ++ [ndD n]).length : Nat) : Int) - 1)) := by
  rw [a_, d_, ci_ sO]; simp
 refine mcx Tryz.func96 kR kR ?_
 conv => whnf
 refine ⟨none, kR, ?_⟩
 conv => whnf
 refine ⟨by rw [d_]; show (ns.length + 1) * 80 ≤ _; omega, ?_⟩
 conv => whnf
 exact ⟨rfl, by rw [e1]; rfl, by rw [e2]; rfl⟩
end
end
section
open Go.RowKit
def PC (F : FuncId) (p : b2_) (l : List Tok) (e : Int) (fs : List Fc) (f : Nat) : Prop :=
 ∀ (k : Nat) (ns : List Nd), k ≤ l.length → l.length - k < f → ns.length + (l.length - k) ≤ 1000000 → gq_ Tryz.prog F [.bx 0 0] (pM l k e ns fs) (outP l e fs (p (l.drop k) ns))
section
variable {l : List Tok} {k : Nat} {e : Int} {ns : List Nd} {fs : List Fc} {F : FuncId} {p : b2_} {f : Nat}
theorem suf_drop {r : List Tok} (h : r <:+ l.drop k) : r = l.drop (l.length - r.length) := by
 obtain ⟨a, ha⟩ := h
 have : l = (l.take k ++ a) ++ r := by rw [List.append_assoc, ha, List.take_append_drop]
 have hl : l.length = (l.take k ++ a).length + r.length := by rw [← a_, ← this]
 rw [show l.length - r.length = (l.take k ++ a).length by omega]
 have h2 := congrArg (List.drop (l.take k ++ a).length) this
 rw [List.drop_left] at h2
 exact h2.symm
theorem PC.err (h : PC F p l e fs f) (hk : k ≤ l.length) (hf : l.length - k < f) (hn : ns.length + (l.length - k) ≤ 1000000) {o : Int} (hp : p (l.drop k) ns = .error o) : g4_ Tryz.prog F [.bx 0 0] (pM l k e ns fs) (dj_ o) := by
 have := h k ns hk hf hn
 rw [hp] at this
 exact this
theorem PC.ok (h : PC F p l e fs f) (hE : be_ p) (hG : bp_ p) (hk : k ≤ l.length) (hf : l.length - k < f) (hn : ns.length + (l.length - k) ≤ 1000000) {i : Int} {r1 : List Tok} {ns1 : List Nd} (hp : p (l.drop k) ns = .ok (i, r1, ns1)) :
  ∃ k1, r1 = l.drop k1 ∧ k < k1 ∧ k1 ≤ l.length ∧ ns1.length + (l.length - k1) ≤ ns.length + (l.length - k) ∧ bm_ Tryz.prog F [.bx 0 0] (pM l k e ns fs) (int i) (pM l k1 e ns1 fs) := by
 have := h k ns hk hf hn
 rw [hp] at this
 have h1 := hE hp
 have h2 := hG hp
 have h3 := h1.lt
 rw [p_] at h2 h3
 exact ⟨l.length - r1.length, suf_drop h1.suf, oM, oM, oM, this⟩
theorem b8_ {i : Int} {k1 : Nat} {ns1 : List Nd} (hk : k1 ≤ l.length) : outP l e fs (.ok (i, l.drop k1, ns1)) = .ok (int i, pM l k1 e ns1 fs) := by
 simp only [outP, p_]
 rw [show l.length - (l.length - k1) = k1 by omega]
theorem c0_ {K : Int} {ts : List Bs} (ht : ts ≠ []) (r : List Tok) : ak_ K ts r = true ↔ (pKind r = K ∧ ts.contains (pText r) = true ∧ r ≠ []) := by
 cases r with
 | nil => simp [ak_]
 | cons t r =>
  have : ts.isEmpty = false := by cases ts with | nil => exact absurd rfl ht | cons => rfl
  simp [ak_, pKind, pText, this]
theorem tail_drop : (l.drop k).tail = l.drop (k + 1) := by rw [List.tail_drop]
theorem b5_ (h : k < l.length) : pText (l.drop k) = l[k].text := by rw [r_ h]; rfl
end
theorem oi_ {l : List Tok} {k : Nat} {e : Int} {ns : List Nd} {fs : List Fc} {f : Nat} {O : b2_} (hO : PC 249 O l e fs f) (hE : be_ O) (hG : bp_ O) (hl : l.length ≤ 1000000) (K : Int) (ts : List Bs) (ht : ts.length ≤ 100) (ht0 : ts ≠ [])
  (hk : k ≤ l.length) (hf : l.length - k < f) (hn : ns.length + (l.length - k) ≤ 1000000) :
  gq_ Tryz.prog 173 [.bx 0 0, .fn 249 1 [.bx 0 0], int K, tsV ts] (pM l k e ns fs) (outP l e fs (by_ K ts O (l.drop k) ns)) := by
 generalize hR : by_ K ts O (l.drop k) ns = R
 unfold by_ at hR
 refine me_ Tryz.func173 kR kR ?_
 cases h1 : O (l.drop k) ns with
 | error o =>
  rw [h1] at hR
  subst hR
  conv => whnf
  refine .inr ?_
  exact co_ (T := TM ab_) (hO.err hk hf hn h1) rfl
 | ok r =>
  obtain ⟨i, r1, ns1⟩ := r
  rw [h1] at hR
  obtain ⟨k1, rfl, c1, c2, c3, c4⟩ := hO.ok hE hG hk hf hn h1
  conv => whnf
  refine .inl ?_
  conv => whnf
  refine T_ (T := TM ab_) (φ := []) (gf := false) c4 ?_
  conv => whnf
  refine ⟨[], Nat × Int × List Nd, fun ⟨k, i, ns⟩ => [(9, int i)], fun ⟨k, i, ns⟩ => [(35, some (kg_ l k e 36 37)), (36, some (kh_ ns)), (37, some (km_ fs))],
   fun ⟨k, i, ns⟩ => k1 ≤ k ∧ k ≤ l.length ∧ ns.length + (l.length - k) ≤ 1000000 ∧ ∃ f', l.length - k ≤ f' ∧ cq_ K ts O f' i (l.drop k) ns = R, fun x => l.length - x.1, (k1, i, ns1), ⟨f_ _, c2, oM, _, by rw [p_]; exact f_ _, hR⟩, ?_, ?_⟩
  ·exact eN
  clear h1 hR c2 c3 c4 hn
  rintro ⟨k2, i, ns⟩ ⟨b0, b1, b2, f', b3, b4⟩
  conv => whnf
  refine .inl ?_
  cases hb : ak_ K ts (l.drop k2) with
  | false =>
   conv => whnf
   refine T_ (T := TM ab_) (φ := []) (gf := false) (b7_ hl ht hb b1) ?_
   conv => whnf
   refine kT ?_
   have hR : R = .ok (i, l.drop k2, ns) := by
    rw [← b4]
    cases f' with
    | zero => rfl
    | succ f' =>
     unfold cq_
     rw [if_neg]
     rw [← c0_ ht0, hb]; simp
   conv => whnf
   exact ⟨_, by rw [hR, b8_ b1], rfl, rfl, rfl⟩
  | true =>
   have hk2 := ac_ hb
   conv => whnf
   refine T_ (T := TM ab_) (φ := []) (gf := false) (b6_ hl ht hb hk2) ?_
   conv => whnf
   refine kF ?_
   obtain ⟨f', rfl⟩ : ∃ g, f' = g + 1 := ⟨f' - 1, oM⟩
   unfold cq_ at b4
   rw [if_pos ((c0_ ht0 _).1 hb), tail_drop, b5_ hk2] at b4
   cases h2 : O (l.drop (k2 + 1)) ns with
   | error o =>
    rw [h2] at b4
    subst b4
    conv => whnf
    refine .inr ?_
    exact co_ (T := TM ab_) (hO.err oM oM oM h2) rfl
   | ok r =>
    obtain ⟨j, r3, ns3⟩ := r
    rw [h2] at b4
    obtain ⟨k3, rfl, d1, d2, d3, d4⟩ := hO.ok hE hG oM oM oM h2
    conv => whnf
    refine .inl ?_
    conv => whnf
    refine T_ (T := TM ab_) (φ := []) (gf := false) d4 ?_
    conv => whnf
    refine .inl ?_
    conv => whnf
    refine T_ (T := TM ab_) (φ := []) (gf := false) (dr_ (ns := ns3) (ndM 9 l[k2].text 0 [i, j]) (show ns3.length ≤ 1000000 by omega)) ?_
    conv => whnf
    refine ⟨(k3, (ns3.length : Nat), ns3 ++ [ndM 9 l[k2].text 0 [i, j]]), ⟨oM, d2, by rw [a_]; simp; omega, f', oM, b4⟩, by dsimp only; omega, ?_⟩
    exact eN
theorem p7_ {l : List Tok} {k : Nat} {e : Int} {ns : List Nd} {fs : List Fc} {f : Nat} {O : b2_} (hO : PC 237 O l e fs f) (hE : be_ O) (hG : bp_ O) (hl : l.length ≤ 1000000) (K : Int) (ts : List Bs) (ht : ts.length ≤ 100) (ht0 : ts ≠ [])
  (hk : k ≤ l.length) (hf : l.length - k < f) (hn : ns.length + (l.length - k) ≤ 1000000) :
  gq_ Tryz.prog 173 [.bx 0 0, .fn 237 1 [.bx 0 0], int K, tsV ts] (pM l k e ns fs) (outP l e fs (by_ K ts O (l.drop k) ns)) := by
 generalize hR : by_ K ts O (l.drop k) ns = R
 unfold by_ at hR
 refine me_ Tryz.func173 kR kR ?_
 cases h1 : O (l.drop k) ns with
 | error o =>
  rw [h1] at hR
  subst hR
  conv => whnf
  refine .inr ?_
  exact co_ (T := TM ab_) (hO.err hk hf hn h1) rfl
 | ok r =>
  obtain ⟨i, r1, ns1⟩ := r
  rw [h1] at hR
  obtain ⟨k1, rfl, c1, c2, c3, c4⟩ := hO.ok hE hG hk hf hn h1
  conv => whnf
  refine .inl ?_
  conv => whnf
  refine T_ (T := TM ab_) (φ := []) (gf := false) c4 ?_
  conv => whnf
  refine ⟨[], Nat × Int × List Nd, fun ⟨k, i, ns⟩ => [(9, int i)], fun ⟨k, i, ns⟩ => [(35, some (kg_ l k e 36 37)), (36, some (kh_ ns)), (37, some (km_ fs))],
   fun ⟨k, i, ns⟩ => k1 ≤ k ∧ k ≤ l.length ∧ ns.length + (l.length - k) ≤ 1000000 ∧ ∃ f', l.length - k ≤ f' ∧ cq_ K ts O f' i (l.drop k) ns = R, fun x => l.length - x.1, (k1, i, ns1), ⟨f_ _, c2, oM, _, by rw [p_]; exact f_ _, hR⟩, ?_, ?_⟩
  ·exact eN
  clear h1 hR c2 c3 c4 hn
  rintro ⟨k2, i, ns⟩ ⟨b0, b1, b2, f', b3, b4⟩
  conv => whnf
  refine .inl ?_
  cases hb : ak_ K ts (l.drop k2) with
  | false =>
   conv => whnf
   refine T_ (T := TM ab_) (φ := []) (gf := false) (b7_ hl ht hb b1) ?_
   conv => whnf
   refine kT ?_
   have hR : R = .ok (i, l.drop k2, ns) := by
    rw [← b4]
    cases f' with
    | zero => rfl
    | succ f' =>
     unfold cq_
     rw [if_neg]
     rw [← c0_ ht0, hb]; simp
   conv => whnf
   exact ⟨_, by rw [hR, b8_ b1], rfl, rfl, rfl⟩
  | true =>
   have hk2 := ac_ hb
   conv => whnf
   refine T_ (T := TM ab_) (φ := []) (gf := false) (b6_ hl ht hb hk2) ?_
   conv => whnf
   refine kF ?_
   obtain ⟨f', rfl⟩ : ∃ g, f' = g + 1 := ⟨f' - 1, oM⟩
   unfold cq_ at b4
   rw [if_pos ((c0_ ht0 _).1 hb), tail_drop, b5_ hk2] at b4
   cases h2 : O (l.drop (k2 + 1)) ns with
   | error o =>
    rw [h2] at b4
    subst b4
    conv => whnf
    refine .inr ?_
    exact co_ (T := TM ab_) (hO.err oM oM oM h2) rfl
   | ok r =>
    obtain ⟨j, r3, ns3⟩ := r
    rw [h2] at b4
    obtain ⟨k3, rfl, d1, d2, d3, d4⟩ := hO.ok hE hG oM oM oM h2
    conv => whnf
    refine .inl ?_
    conv => whnf
    refine T_ (T := TM ab_) (φ := []) (gf := false) d4 ?_
    conv => whnf
    refine .inl ?_
    conv => whnf
    refine T_ (T := TM ab_) (φ := []) (gf := false) (dr_ (ns := ns3) (ndM 9 l[k2].text 0 [i, j]) (show ns3.length ≤ 1000000 by omega)) ?_
    conv => whnf
    refine ⟨(k3, (ns3.length : Nat), ns3 ++ [ndM 9 l[k2].text 0 [i, j]]), ⟨oM, d2, by rw [a_]; simp; omega, f', oM, b4⟩, by dsimp only; omega, ?_⟩
    exact eN
theorem x_chain_not {l : List Tok} {k : Nat} {e : Int} {ns : List Nd} {fs : List Fc} {f : Nat} {O : b2_} (hO : PC 201 O l e fs f) (hE : be_ O) (hG : bp_ O) (hl : l.length ≤ 1000000) (K : Int) (ts : List Bs) (ht : ts.length ≤ 100) (ht0 : ts ≠ [])
  (hk : k ≤ l.length) (hf : l.length - k < f) (hn : ns.length + (l.length - k) ≤ 1000000) :
  gq_ Tryz.prog 173 [.bx 0 0, .fn 201 1 [.bx 0 0], int K, tsV ts] (pM l k e ns fs) (outP l e fs (by_ K ts O (l.drop k) ns)) := by
 generalize hR : by_ K ts O (l.drop k) ns = R
 unfold by_ at hR
 refine me_ Tryz.func173 kR kR ?_
 cases h1 : O (l.drop k) ns with
 | error o =>
  rw [h1] at hR
  subst hR
  conv => whnf
  refine .inr ?_
  exact co_ (T := TM ab_) (hO.err hk hf hn h1) rfl
 | ok r =>
  obtain ⟨i, r1, ns1⟩ := r
  rw [h1] at hR
  obtain ⟨k1, rfl, c1, c2, c3, c4⟩ := hO.ok hE hG hk hf hn h1
  conv => whnf
  refine .inl ?_
  conv => whnf
  refine T_ (T := TM ab_) (φ := []) (gf := false) c4 ?_
  conv => whnf
  refine ⟨[], Nat × Int × List Nd, fun ⟨k, i, ns⟩ => [(9, int i)], fun ⟨k, i, ns⟩ => [(35, some (kg_ l k e 36 37)), (36, some (kh_ ns)), (37, some (km_ fs))],
   fun ⟨k, i, ns⟩ => k1 ≤ k ∧ k ≤ l.length ∧ ns.length + (l.length - k) ≤ 1000000 ∧ ∃ f', l.length - k ≤ f' ∧ cq_ K ts O f' i (l.drop k) ns = R, fun x => l.length - x.1, (k1, i, ns1), ⟨f_ _, c2, oM, _, by rw [p_]; exact f_ _, hR⟩, ?_, ?_⟩
  ·exact eN
  clear h1 hR c2 c3 c4 hn
  rintro ⟨k2, i, ns⟩ ⟨b0, b1, b2, f', b3, b4⟩
  conv => whnf
  refine .inl ?_
  cases hb : ak_ K ts (l.drop k2) with
  | false =>
   conv => whnf
   refine T_ (T := TM ab_) (φ := []) (gf := false) (b7_ hl ht hb b1) ?_
   conv => whnf
   refine kT ?_
   have hR : R = .ok (i, l.drop k2, ns) := by
    rw [← b4]
    cases f' with
    | zero => rfl
    | succ f' =>
     unfold cq_
     rw [if_neg]
     rw [← c0_ ht0, hb]; simp
   conv => whnf
   exact ⟨_, by rw [hR, b8_ b1], rfl, rfl, rfl⟩
  | true =>
   have hk2 := ac_ hb
   conv => whnf
   refine T_ (T := TM ab_) (φ := []) (gf := false) (b6_ hl ht hb hk2) ?_
   conv => whnf
   refine kF ?_
   obtain ⟨f', rfl⟩ : ∃ g, f' = g + 1 := ⟨f' - 1, oM⟩
   unfold cq_ at b4
   rw [if_pos ((c0_ ht0 _).1 hb), tail_drop, b5_ hk2] at b4
   cases h2 : O (l.drop (k2 + 1)) ns with
   | error o =>
    rw [h2] at b4
    subst b4
    conv => whnf
    refine .inr ?_
    exact co_ (T := TM ab_) (hO.err oM oM oM h2) rfl
   | ok r =>
    obtain ⟨j, r3, ns3⟩ := r
    rw [h2] at b4
    obtain ⟨k3, rfl, d1, d2, d3, d4⟩ := hO.ok hE hG oM oM oM h2
    conv => whnf
    refine .inl ?_
    conv => whnf
    refine T_ (T := TM ab_) (φ := []) (gf := false) d4 ?_
    conv => whnf
    refine .inl ?_
    conv => whnf
    refine T_ (T := TM ab_) (φ := []) (gf := false) (dr_ (ns := ns3) (ndM 9 l[k2].text 0 [i, j]) (show ns3.length ≤ 1000000 by omega)) ?_
    conv => whnf
    refine ⟨(k3, (ns3.length : Nat), ns3 ++ [ndM 9 l[k2].text 0 [i, j]]), ⟨oM, d2, by rw [a_]; simp; omega, f', oM, b4⟩, by dsimp only; omega, ?_⟩
    exact eN
theorem x_chain_and {l : List Tok} {k : Nat} {e : Int} {ns : List Nd} {fs : List Fc} {f : Nat} {O : b2_} (hO : PC 174 O l e fs f) (hE : be_ O) (hG : bp_ O) (hl : l.length ≤ 1000000) (K : Int) (ts : List Bs) (ht : ts.length ≤ 100) (ht0 : ts ≠ [])
  (hk : k ≤ l.length) (hf : l.length - k < f) (hn : ns.length + (l.length - k) ≤ 1000000) :
  gq_ Tryz.prog 173 [.bx 0 0, .fn 174 1 [.bx 0 0], int K, tsV ts] (pM l k e ns fs) (outP l e fs (by_ K ts O (l.drop k) ns)) := by
 generalize hR : by_ K ts O (l.drop k) ns = R
 unfold by_ at hR
 refine me_ Tryz.func173 kR kR ?_
 cases h1 : O (l.drop k) ns with
 | error o =>
  rw [h1] at hR
  subst hR
  conv => whnf
  refine .inr ?_
  exact co_ (T := TM ab_) (hO.err hk hf hn h1) rfl
 | ok r =>
  obtain ⟨i, r1, ns1⟩ := r
  rw [h1] at hR
  obtain ⟨k1, rfl, c1, c2, c3, c4⟩ := hO.ok hE hG hk hf hn h1
  conv => whnf
  refine .inl ?_
  conv => whnf
  refine T_ (T := TM ab_) (φ := []) (gf := false) c4 ?_
  conv => whnf
  refine ⟨[], Nat × Int × List Nd, fun ⟨k, i, ns⟩ => [(9, int i)], fun ⟨k, i, ns⟩ => [(35, some (kg_ l k e 36 37)), (36, some (kh_ ns)), (37, some (km_ fs))],
   fun ⟨k, i, ns⟩ => k1 ≤ k ∧ k ≤ l.length ∧ ns.length + (l.length - k) ≤ 1000000 ∧ ∃ f', l.length - k ≤ f' ∧ cq_ K ts O f' i (l.drop k) ns = R, fun x => l.length - x.1, (k1, i, ns1), ⟨f_ _, c2, oM, _, by rw [p_]; exact f_ _, hR⟩, ?_, ?_⟩
  ·exact eN
  clear h1 hR c2 c3 c4 hn
  rintro ⟨k2, i, ns⟩ ⟨b0, b1, b2, f', b3, b4⟩
  conv => whnf
  refine .inl ?_
  cases hb : ak_ K ts (l.drop k2) with
  | false =>
   conv => whnf
   refine T_ (T := TM ab_) (φ := []) (gf := false) (b7_ hl ht hb b1) ?_
   conv => whnf
   refine kT ?_
   have hR : R = .ok (i, l.drop k2, ns) := by
    rw [← b4]
    cases f' with
    | zero => rfl
    | succ f' =>
     unfold cq_
     rw [if_neg]
     rw [← c0_ ht0, hb]; simp
   conv => whnf
   exact ⟨_, by rw [hR, b8_ b1], rfl, rfl, rfl⟩
  | true =>
   have hk2 := ac_ hb
   conv => whnf
   refine T_ (T := TM ab_) (φ := []) (gf := false) (b6_ hl ht hb hk2) ?_
   conv => whnf
   refine kF ?_
   obtain ⟨f', rfl⟩ : ∃ g, f' = g + 1 := ⟨f' - 1, oM⟩
   unfold cq_ at b4
   rw [if_pos ((c0_ ht0 _).1 hb), tail_drop, b5_ hk2] at b4
   cases h2 : O (l.drop (k2 + 1)) ns with
   | error o =>
    rw [h2] at b4
    subst b4
    conv => whnf
    refine .inr ?_
    exact co_ (T := TM ab_) (hO.err oM oM oM h2) rfl
   | ok r =>
    obtain ⟨j, r3, ns3⟩ := r
    rw [h2] at b4
    obtain ⟨k3, rfl, d1, d2, d3, d4⟩ := hO.ok hE hG oM oM oM h2
    conv => whnf
    refine .inl ?_
    conv => whnf
    refine T_ (T := TM ab_) (φ := []) (gf := false) d4 ?_
    conv => whnf
    refine .inl ?_
    conv => whnf
    refine T_ (T := TM ab_) (φ := []) (gf := false) (dr_ (ns := ns3) (ndM 9 l[k2].text 0 [i, j]) (show ns3.length ≤ 1000000 by omega)) ?_
    conv => whnf
    refine ⟨(k3, (ns3.length : Nat), ns3 ++ [ndM 9 l[k2].text 0 [i, j]]), ⟨oM, d2, by rw [a_]; simp; omega, f', oM, b4⟩, by dsimp only; omega, ?_⟩
    exact eN
end
section
open Go.RowKit
section
variable {l : List Tok} {k : Nat} {e : Int} {ns : List Nd} {fs : List Fc} {f : Nat} {E : b2_}
theorem flatI (ks : List Int) : Flat (ks.map ae_) := by
 intro x hx d hd
 obtain ⟨i, _, rfl⟩ := List.mem_map.1 hx
 simp [ae_] at hd
 exact ⟨_, hd⟩
theorem flatS (ks : List Bs) : Flat (ks.map bl_) := by
 intro x hx d hd
 obtain ⟨i, _, rfl⟩ := List.mem_map.1 hx
 simp [bl_] at hd
 exact ⟨_, hd⟩
abbrev iRow (f : Bool) (ks : List Int) : Bk := .row 0 3 1 f (ks.map ae_)
abbrev sRow (f : Bool) (ks : List Bs) : Bk := .row 0 9 1 f (ks.map bl_)
abbrev iM (l : List Tok) (k : Nat) (e : Int) (ns : List Nd) (fs : List Fc) (ks : List Int) : List Bk := [.box [.ow 1 0], iRow false ks, .box [.bx 3 0], kg_ l k e 4 5, kh_ ns, km_ fs]
def planI : Plan := .one 1 (.alt 0 (.alt 2 (.one 3 (.one 4 (.one 5 .done))) .stop) (.alt 2 (.one 0 (.one 3 (.one 4 (.one 5 .done)))) .stop))
theorem x_itemY {i : Int} {k1 : Nat} {ns1 : List Nd} {ks : List Int} (c : bm_ Tryz.prog 139 [.bx 0 0] (pM l k e ns fs) (int i) (pM l k1 e ns1 fs)) (hks : ks.length ≤ 1000000) :
  bm_ Tryz.prog 268 [.bx 0 0, .bx 2 0] (iM l k e ns fs ks) (.tu []) (iM l k1 e ns1 fs (ks ++ [i])) := by
 have e1 : iM l k1 e ns1 fs (ks ++ [i]) = [.box [.ow 1 0], .row 0 3 1 false (ks.map ae_ ++ [ae_ i]), .box [.bx 3 0], kg_ l k1 e 4 5, kh_ ns1, km_ fs] := by simp only [iM, iRow, List.map_append, List.map_cons, List.map_nil]
 refine mcx Tryz.func268 kR kR ?_
 conv => whnf
 refine ⟨some planI, kR, ?_⟩
 conv => whnf
 refine ⟨?_, ?_, trivial⟩
 ·conv => whnf
  refine ⟨?_, trivial⟩
  conv => whnf
  refine T_ (T := TM ab_) (φ := []) (gf := false) c ?_
  conv => whnf
  refine ⟨by rw [d_]; show (ks.length + 1) * 8 ≤ _; omega, ?_⟩
  conv => whnf
  exact ⟨rfl, by rw [e1]; rfl, rfl⟩
 ·conv => whnf
  refine T_ (T := TM ab_) (φ := []) (gf := false) c ?_
  conv => whnf
  refine ⟨by rw [d_]; show (ks.length + 1) * 8 ≤ _; omega, ?_⟩
  conv => whnf
  exact ⟨rfl, by rw [e1]; rfl, rfl⟩
theorem x_itemN {o : Int} {ks : List Int} (c : g4_ Tryz.prog 139 [.bx 0 0] (pM l k e ns fs) (dj_ o)) :
  g4_ Tryz.prog 268 [.bx 0 0, .bx 2 0] (iM l k e ns fs ks) (dj_ o) := by
 refine mpsx Tryz.func268 kR kR ?_
 conv => whnf
 refine ⟨some planI, kR, ?_⟩
 conv => whnf
 refine ⟨?_, ?_, trivial⟩
 ·conv => whnf
  refine ⟨.inr ?_, trivial⟩
  exact co_ (T := TM ab_) c rfl
 ·conv => whnf
  refine .inr ?_
  exact co_ (T := TM ab_) c rfl
theorem c2_ (K : Int) (s : Bs) (h : k < l.length) : isTk K s (l.drop k) = (decide (l[k].kind = K) && (l[k].text == s)) := by rw [r_ h]; rfl
theorem kl_ (K : Int) (s : Bs) (h : l.length ≤ k) : isTk K s (l.drop k) = false := by rw [k_ h]; rfl
theorem ay_ (K : Int) (s : Bs) (r : List Tok) : ak_ K [s] r = isTk K s r := by
 cases r with
 | nil => rfl
 | cons t r => by_cases h : t.text = s <;> simp [ak_, isTk, h]
theorem fi_ {K : Int} {a b : Bs} {r : List Tok} : ak_ K [a, b] r = (isTk K a r || isTk K b r) := by
 cases r with
 | nil => rfl
 | cons t r =>
  show (decide (t.kind = K) && ([a, b].isEmpty || [a, b].contains t.text)) = (decide (t.kind = K) && (t.text == a) || decide (t.kind = K) && (t.text == b))
  rw [← Bool.and_or_distrib_left, show [a, b].isEmpty = false from rfl, Bool.false_or, List.contains_cons, List.contains_cons, List.contains_nil, Bool.or_false]
abbrev lM0 (l : List Tok) (k : Nat) (e : Int) (ns : List Nd) (fs : List Fc) : List Bk := [kg_ l k e 1 2, kh_ ns, km_ fs, .box [.cv (.slice none 0 0)], .box [.bx 0 0]]
abbrev lM1 (l : List Tok) (k : Nat) (e : Int) (ns : List Nd) (fs : List Fc) (ks : List Int) : List Bk := [kg_ l k e 1 2, kh_ ns, km_ fs, .box [.ow 5 0], .box [.bx 0 0], iRow true ks]
abbrev itemF : V := .fn 268 0 [.bx 3 0, .bx 4 0]
theorem x_list0 {fin : Bs} (hl : l.length ≤ 1000000) (h : a8_ fin (l.drop k) = true) :
  bm_ Tryz.prog 54 [.bx 0 0, bc_ fin, itemF] (lM0 l k e ns fs) (.tu []) (lM0 l (k + 1) e ns fs) := by
 have hb : ak_ 5 [fin] (l.drop k) = true := by rw [ay_]; exact h
 refine mcx Tryz.func54 kR kR ?_
 conv => whnf
 refine T_ (T := TM ab_) (φ := []) (gf := false) (b6_ hl sI hb (ac_ hb)) ?_
 conv => whnf
 refine kT ?_
 conv => whnf
 exact ⟨rfl, rfl, rfl⟩
def outL (l : List Tok) (e : Int) (fs : List Fc) : hq_ (List Int) → Except Value (V × List Bk)
 | .ok (ks, r1, ns1) => .ok (.tu [], lM1 l (l.length - r1.length) e ns1 fs ks)
 | .error o => .error (dj_ o)
theorem outL_ok {ks : List Int} {k1 : Nat} {ns1 : List Nd} (hk : k1 ≤ l.length) : outL l e fs (.ok (ks, l.drop k1, ns1)) = .ok (.tu [], lM1 l k1 e ns1 fs ks) := by
 simp only [outL, p_]
 rw [show l.length - (l.length - k1) = k1 by omega]
theorem E_nil (hA : AtP e E) (hE : be_ E) (ns : List Nd) : E [] ns = .error e := by
 cases h : E [] ns with
 | ok r =>
  obtain ⟨i, r1, ns1⟩ := r
  have := (hE h).lt
  simp at this
 | error o =>
  rcases hA h with h | ⟨t, h, _⟩
  ·rw [h]
  ·cases h
theorem x_list1 {fin : Bs} (_hfin : fin ≠ sCm) (hC : PC 139 E l e fs f) (hE : be_ E) (hG : bp_ E) (hA : AtP e E) (hl : l.length ≤ 1000000) (hk : k ≤ l.length) (hf : l.length - k < f) (hn : ns.length + (l.length - k) ≤ 1000000)
  (h : a8_ fin (l.drop k) = false) :
  gq_ Tryz.prog 54 [.bx 0 0, bc_ fin, itemF] (lM0 l k e ns fs) (outL l e fs (er_ e fin E (l.drop k) ns)) := by
 have hb : ak_ 5 [fin] (l.drop k) = false := by rw [ay_]; exact h
 generalize hR : er_ e fin E (l.drop k) ns = R
 unfold er_ at hR
 rw [if_neg (by rw [h]; simp)] at hR
 refine me_ Tryz.func54 kR kR ?_
 conv => whnf
 refine .inl ?_
 conv => whnf
 refine T_ (T := TM ab_) (φ := []) (gf := false) (b7_ hl sI hb hk) ?_
 conv => whnf
 refine kF ?_
 conv => whnf
 refine ⟨[(1030000, 43, 3, 1)], Nat × List Nd × List Int, fun _ => [], fun ⟨k, ns, ks⟩ => [(27, some (kg_ l k e 28 29)), (28, some (kh_ ns)), (29, some (km_ fs)), (43, some (iRow true ks))],
  fun ⟨k2, ns, ks⟩ => k ≤ k2 ∧ k2 ≤ l.length ∧ ns.length + (l.length - k2) ≤ 1000000 ∧ ks.length + (l.length - k2) ≤ 1000000 ∧ ∃ f', l.length - k2 ≤ f' ∧ je_ e fin E f' ks (l.drop k2) ns = R, fun x => l.length - x.1, (k, ns, []), ⟨f_ _, hk, hn, by simp; omega, _, by rw [p_]; exact f_ _, hR⟩, ?_, ?_⟩
 ·exact eN
 clear hR hn hb h
 rintro ⟨k2, ns, ks⟩ ⟨b0, b1, b2, b3, f', b4, b5⟩
 cases h1 : E (l.drop k2) ns with
 | error o =>
  have hR : R = .error o := by
   rw [← b5]
   cases f' with
   | zero =>
    have : l.drop k2 = [] := k_ oM
    rw [this] at h1 ⊢
    rw [E_nil hA hE ns] at h1
    cases h1
    rfl
   | succ f' => unfold je_; rw [h1]
  subst hR
  conv => whnf
  refine .inr ?_
  exact co_ (T := TM ab_) (x_itemN (hC.err b1 oM b2 h1)) rfl
 | ok r =>
  obtain ⟨i, r1, ns3⟩ := r
  obtain ⟨f', rfl⟩ : ∃ g, f' = g + 1 := by
   refine ⟨f' - 1, ?_⟩
   have := (hE h1).lt
   rw [p_] at this
   omega
  unfold je_ at b5
  rw [h1] at b5
  obtain ⟨k3, rfl, d1, d2, d3, d4⟩ := hC.ok hE hG b1 oM b2 h1
  conv => whnf
  refine .inl ?_
  conv => whnf
  refine mcallR (T := TM ab_) (φ := []) (gf := false) 43 (x_itemY (ks := ks) d4 oM) (flatI _) ?_
  cases hb : ak_ 5 [sCm, fin] (l.drop k3) with
  | false =>
   have hR : R = .error (fh_ e (l.drop k3)) := by
    rw [fi_, Bool.or_eq_false_iff] at hb
    rw [← b5]
    dsimp only
    rw [if_neg (by rw [show a8_ fin (l.drop k3) = false from hb.2]; simp), if_neg (by rw [show a8_ sCm (l.drop k3) = false from hb.1]; simp)]
   subst hR
   conv => whnf
   refine .inr ?_
   exact co_ (T := TM ab_) (ch_ hl sI hb d2) rfl
  | true =>
   have hk3 := ac_ hb
   conv => whnf
   refine .inl ?_
   conv => whnf
   refine T_ (T := TM ab_) (φ := []) (gf := false) (br_ hl sI hb hk3) ?_
   have hkd : l[k3].kind = 5 := by
    rw [c6_ _ _ hk3] at hb
    simp at hb
    exact hb.1
   conv => whnf
   rintro (_ | _) h3
   ·have h3 : (l[k3].text == fin) = false := (a2_ _ _).symm.trans h3
    have h4 : a8_ sCm (l.drop k3) = true := by
     have h5 : isTk 5 fin (l.drop k3) = false := by rw [c2_ _ _ hk3, h3, Bool.and_false]
     rw [fi_, h5, Bool.or_false] at hb
     exact hb
    dsimp only at b5
    rw [if_neg (by rw [show a8_ fin (l.drop k3) = false by rw [a8_, c2_ _ _ hk3, h3, Bool.and_false]]; simp), if_pos h4, tail_drop] at b5
    conv => whnf
    refine ⟨(k3 + 1, ns3, ks ++ [i]), ⟨oM, oM, oM, by rw [a_]; simp; omega, f', oM, b5⟩, by dsimp only; omega, ?_⟩
    exact eN
   ·have h3 : (l[k3].text == fin) = true := (a2_ _ _).symm.trans h3
    dsimp only at b5
    rw [if_pos (show a8_ fin (l.drop k3) = true by rw [a8_, c2_ _ _ hk3, h3, hkd]; rfl), tail_drop] at b5
    conv => whnf
    exact ⟨_, by rw [← b5, outL_ok oM], rfl, rfl, rfl⟩
end
end
section
open Go.RowKit
section
variable {l : List Tok} {k : Nat} {e : Int} {ns : List Nd} {fs : List Fc} {f : Nat} {E : b2_}
def outK (l : List Tok) (e : Int) (fs : List Fc) : hq_ (List Int) → Except Value (V × List Bk)
 | .ok (ks, r1, ns1) => .ok (pc_ ks, pM l (l.length - r1.length) e ns1 fs)
 | .error o => .error (dj_ o)
theorem x_exprs {fin : Bs} (hfin : fin ≠ sCm) (hC : PC 139 E l e fs f) (hE : be_ E) (hG : bp_ E) (hA : AtP e E) (hl : l.length ≤ 1000000) (hk : k ≤ l.length) (hf : l.length - k < f) (hn : ns.length + (l.length - k) ≤ 1000000) :
  gq_ Tryz.prog 264 [.bx 0 0, bc_ fin] (pM l k e ns fs) (outK l e fs (er_ e fin E (l.drop k) ns)) := by
 refine me_ Tryz.func264 kR kR ?_
 cases h : a8_ fin (l.drop k) with
 | true =>
  have hk1 : k < l.length := by
   rcases s_ k l.length with h1 | h1
   ·exact h1
   ·rw [a8_, kl_ _ _ h1] at h; cases h
  have hR : er_ e fin E (l.drop k) ns = .ok ([], l.drop (k + 1), ns) := by unfold er_; rw [if_pos h, tail_drop]
  conv => whnf
  refine .inl ?_
  conv => whnf
  refine T_ (T := TM ab_) (φ := []) (gf := false) (x_list0 hl h) ?_
  conv => whnf
  refine ⟨_, by rw [hR]; rfl, rfl, ?_, rfl⟩
  show _ = some (pM l (l.length - (l.drop (k + 1)).length) e ns fs)
  rw [p_, show l.length - (l.length - (k + 1)) = k + 1 by omega]
  rfl
 | false =>
  have c := x_list1 hfin hC hE hG hA hl hk hf hn h
  generalize er_ e fin E (l.drop k) ns = R at c
  cases R with
  | error o =>
   conv => whnf
   refine .inr ?_
   exact co_ (T := TM ab_) c rfl
  | ok r =>
   obtain ⟨ks, r1, ns1⟩ := r
   conv => whnf
   refine .inl ?_
   conv => whnf
   refine T_ (T := TM ab_) (φ := [27]) (gf := false) c ?_
   conv => whnf
   exact ⟨_, rfl, rfl, rfl, rfl⟩
end
end
end Go.Proofs.YtglndfgmlminpaaGreatDoor
