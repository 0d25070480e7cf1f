/- Texts joined by pack.py: XSxG XSxH -/
import Derived.Test.YtkpmlgpkmlhbjaaGreatDoorCp3
import Derived.Laws.IdiomStrings
namespace Go.Proofs.YtkpmlgpkmlhbjaaGreatDoor
open Go.RowKit
section
variable {P : Program} {T : Tab} {B : Fr} {w0 : World} {N : Names} {S : Sets} {t : List V} {m : List (Option Bk)} {a : Act} {w : World}
theorem part_sound (hT : TOk P T) {ty : Nat} {i : TI} (ht : T ty = some i) {cs : List V} {us : Array Value} {off : Nat} (hl : cs.length = us.size) (hc : ∀ j v, cs[j]? = some v → RelV N S w v (us.getD j undef))
    {K : V → Prop} (h : loadK i cs off K) : ∃ u v, (part ty us off).run P w = .ok u w ∧ RelV N S w v u ∧ K v := by
  unfold loadK at h
  split at h
  · rename_i hag
    split at h
    · rename_i hle
      rw [k_eq] at h
      refine ⟨.agg (us.extract off (off + i.size)), _, by simp [part, hT.agg ht, hag, hT.size ht], ?_, h⟩
      refine .ag _ _ (by simp; omega) fun j v hv => ?_
      rw [List.getElem?_take] at hv
      split at hv
      · rename_i hj
        rw [List.getElem?_drop] at hv
        have := hc _ v hv
        have hlt := lt_of_get hv
        have e : (us.extract off (off + i.size)).getD j undef = us.getD (off + j) undef := by
          simp only [Array.getD_eq_getD_getElem?, Array.getElem?_extract]
          rw [if_pos (by omega)]
        rw [e]; exact this
      · cases hv
    · cases h
  · rename_i hag
    split at h
    · rename_i v hv
      rw [k_eq] at h
      have hlt := lt_of_get hv
      have hr := hc off v hv
      have : us[off]? = some (us.getD off undef) := by simp [Array.getD_eq_getD_getElem?, show off < us.size by omega]
      generalize us.getD off undef = z at this hr
      exact ⟨z, v, by simp [part, hT.agg ht, hag, this], hr, h⟩
    · cases h
theorem ok_field (hT : TOk P T) (hs : Sat B w0 N S t m a w) {o : Oper} {s f : Nat} {x : Operand} (ho : o.op = .field s x f) {K : V → List (Option Bk) → Prop}
    (h : match T s with
    | some ⟨_, _, _, _, .struct fs⟩ => match fs[f]? with
      | some (off, ty) =>
        match T ty with
        | some i => match evN t x with
          | .ag cs => loadK i cs off fun v => K v m
          | _ => False
        | none => False
      | none => False
    | _ => False) : OpOk P o a w (Post B w0 t a K) := by
  have hx := hs.evN x
  split at h
  rotate_left
  · cases h
  rename_i fs hi
  split at h
  rotate_left
  · cases h
  rename_i off ty hf
  split at h
  rotate_left
  · cases h
  rename_i i hti
  split at h
  rotate_left
  · cases h
  rename_i cs hev
  rw [hev] at hx
  generalize hu : a.eval x = u at hx
  cases hx
  rename_i us hl hc
  obtain ⟨gs, hgs, hmap⟩ := hT.kd_struct hi rfl
  obtain ⟨fd, hfd, rfl, rfl⟩ := fields_get hmap hf
  obtain ⟨u, v, h1, h2, h3⟩ := part_sound hT hti hl hc h
  refine opOk_val (u := u) (w' := w) ?_ (Post.same hs h2 h3)
  unfold execOp
  simp only [ho]
  refine run_v ?_
  rw [hu]
  simp [Instr.field, run_underlying hgs, hfd, asAgg, h1]
theorem ok_nilCheck (hs : Sat B w0 N S t m a w) {o : Oper} {x : Operand} (ho : o.op = .nilCheck x) {K : V → List (Option Bk) → Prop}
    (h : match evN t x with
    | .bx n o => K (.bx n o) m
    | .el f cs o => K (.el f cs o) m
    | _ => False) : OpOk P o a w (Post B w0 t a K) := by
  have hx := hs.evN x
  split at h
  · rename_i n o' hev
    rw [hev] at hx
    generalize hu : a.eval x = u at hx
    cases hx
    rename_i b hn
    refine opOk_val (u := .pointer (some ⟨b, o', none⟩)) (w' := w) ?_ (Post.same hs (.bx _ _ _ hn) h)
    unfold execOp
    simp only [ho, hu]
    simp
  · rename_i f cs o' hev
    rw [hev] at hx
    generalize hu : a.eval x = u at hx
    cases hx
    rename_i b off u' hS hc
    refine opOk_val (u := .pointer (some ⟨b, off + o', none⟩)) (w' := w) ?_ (Post.same hs (.el _ _ _ _ _ hS _ hc) h)
    unfold execOp
    simp only [ho, hu]
    simp
  · cases h
theorem ok_makeInterface (hT : TOk P T) (hs : Sat B w0 N S t m a w) {o : Oper} {ty : Nat} {x : Operand} (ho : o.op = .makeInterface ty x) {K : V → List (Option Bk) → Prop}
    (h : match T ty, evN t x with
    | some ⟨_, _, _, _, .ptr _⟩, .bx n 0 => K (.ic ty n) m
    | _, _ => False) : OpOk P o a w (Post B w0 t a K) := by
  have hx := hs.evN x
  split at h
  · rename_i n hti hev
    have hu0 : ∃ e, P.underlying ty = some (.pointer e) := by
      obtain ⟨d, hd, hk, _⟩ := hT.und hti
      cases d <;> simp_all [kdOf]
    obtain ⟨e0, hu0⟩ := hu0
    rw [hev] at hx
    generalize hu : a.eval x = u at hx
    cases hx
    rename_i b hn
    refine opOk_val (u := .iface ty (.pointer (some ⟨b, 0, none⟩))) (w' := w) ?_ (Post.same hs (.ic _ _ _ hn) h)
    unfold execOp
    simp only [ho]
    refine run_v ?_
    rw [hu]
    simp [Instr.makeInterface, run_underlying hu0]
  · cases h
theorem ok_indexAddr (hT : TOk P T) (hs : Sat B w0 N S t m a w) {o : Oper} {ty : Nat} {x i : Operand} (ho : o.op = .indexAddr ty x i) {K : V → List (Option Bk) → Prop}
    (h : match T ty with
    | some ⟨_, _, _, _, .slice e⟩ => match evN t x, evN t i with
      | .sl f sz xs, .cv (.int _ j) => if sizeOk T e sz && sz != 0 then 0 ≤ j ∧ ∃ cells, xs[j.toNat]? = some cells ∧ forceD cells fun cells => K (.el f cells 0) m else False
      | .ow n k, .cv (.int _ j) => match m[n]? with
        | some (some (.row k' _ sz _ xs)) => if k = k' ∧ sizeOk T e sz = true ∧ sz ≠ 0 then 0 ≤ j ∧ j.toNat < xs.length ∧ K (.oq n k sz j.toNat 0) m else False
        | _ => False
      | .vw n k s lo hi, .cv (.int _ j) => match m[n]? with
        | some (some (.row k' _ sz _ _)) => if k = k' ∧ s = sz ∧ sizeOk T e sz = true ∧ sz ≠ 0 then 0 ≤ j ∧ j.toNat < hi - lo ∧ K (.oq n k sz (lo + j.toNat) 0) m else False
        | _ => False
      | _, _ => False
    | some ⟨_, _, _, _, .array n e⟩ => match evN t x, evN t i with
      | .el f cs off, .cv (.int _ j) => if sizeOk T e 1 then 0 ≤ j ∧ j.toNat < n ∧ ∃ d, cs[off + j.toNat]? = some d ∧ K (.el f [d] 0) m else False
      | .bx b off, .cv (.int _ j) => if sizeOk T e 1 then 0 ≤ j ∧ j.toNat < n ∧ K (.bx b (off + j.toNat)) m else False
      | .cv (.pointer (some ⟨g, off, none⟩)), .cv (.int _ j) => match T e with
        | some ie => 0 ≤ j ∧ j.toNat < n ∧ K (.cv (.pointer (some ⟨g, off + j.toNat * ie.size, none⟩))) m
        | none => False
      | _, _ => False
    | _ => False) : OpOk P o a w (Post B w0 t a K) := by
  have hx := hs.evN x
  have hi' := hs.evN i
  split at h
  rotate_left
  · rename_i n e hti
    have har := hT.kd_array hti rfl
    split at h
    rotate_left
    · rename_i b off k j hev hei
      rw [hev] at hx; rw [hei] at hi'
      split at h
      rotate_left
      · cases h
      rename_i hsz
      obtain ⟨hj, hjn, h⟩ := h
      generalize hu : a.eval x = u at hx
      generalize hv : a.eval i = v at hi'
      cases hi'
      cases hx
      rename_i g hn
      unfold sizeOk at hsz
      split at hsz
      rotate_left
      · cases hsz
      rename_i ie hie
      simp only [beq_iff_eq] at hsz
      refine opOk_val (u := .pointer (some ⟨g, off + j.toNat, none⟩)) (w' := w) ?_ (Post.same hs (.bx _ _ _ hn) h)
      unfold execOp
      simp only [ho]
      refine run_v ?_
      rw [hu, hv]
      have hc2 : 0 ≤ j ∧ j < (n : Int) := ⟨hj, by omega⟩
      simp [Instr.indexAt, Instr.sureAddr, run_underlying har, asIntOf, hc2, hT.size hie, hsz, add_mk]
    · rename_i g off k j hev hei
      rw [hev] at hx; rw [hei] at hi'
      split at h
      rotate_left
      · cases h
      rename_i ie hie
      obtain ⟨hj, hjn, h⟩ := h
      generalize hu : a.eval x = u at hx
      generalize hv : a.eval i = v at hi'
      cases hi'
      cases hx
      refine opOk_val (u := .pointer (some ⟨g, off + j.toNat * ie.size, none⟩)) (w' := w) ?_ (Post.same hs (.cv _) h)
      unfold execOp
      simp only [ho]
      refine run_v ?_
      rw [hu, hv]
      have hc2 : 0 ≤ j ∧ j < (n : Int) := ⟨hj, by omega⟩
      simp [Instr.indexAt, Instr.sureAddr, run_underlying har, asIntOf, hc2, hT.size hie, add_mk]
    · cases h
    rename_i f cs off k j hev hei
    rw [hev] at hx; rw [hei] at hi'
    split at h
    rotate_left
    · cases h
    rename_i hsz
    obtain ⟨hj, hjn, d, hd, h⟩ := h
    generalize hu : a.eval x = u at hx
    generalize hv : a.eval i = v at hi'
    cases hi'
    cases hx
    rename_i b off' u' hS hc
    unfold sizeOk at hsz
    split at hsz
    rotate_left
    · cases hsz
    rename_i ie hie
    simp only [beq_iff_eq] at hsz
    refine opOk_val (u := .pointer (some ⟨b, off' + (off + j.toNat), none⟩)) (w' := w) ?_ (Post.same hs (.el f [d] 0 b (off' + (off + j.toNat)) hS (fun _ => u' (off + j.toNat)) fun q d' hq => ?_) h)
    · unfold execOp
      simp only [ho]
      refine run_v ?_
      rw [hu, hv]
      have hc2 : 0 ≤ j ∧ j < (n : Int) := ⟨hj, by omega⟩
      simp [Instr.indexAt, Instr.sureAddr, run_underlying har, asIntOf, hc2, hT.size hie, hsz, add_mk, Nat.add_assoc]
    · cases q with
      | zero => simp at hq; subst hq; simpa using hc _ _ hd
      | succ q => simp at hq
  · cases h
  rename_i e hti
  have hsl := hT.kd_slice hti rfl
  have fin : ∀ {g p sz len cap : Nat} {k : IntKind} {j : Int} {v : V}, sizeOk T e sz = true → a.eval x = .slice (some ⟨g, p, none⟩) len cap → a.eval i = .int k j → 0 ≤ j → j.toNat < len → RelV N S w v (.pointer (some ⟨g, p + j.toNat * sz, none⟩)) → K v m → OpOk P o a w (Post B w0 t a K) := by
    intro g p sz len cap k j v hsz hx hi hj hlt hv hK
    unfold sizeOk at hsz
    split at hsz
    · rename_i ie hie
      simp only [beq_iff_eq] at hsz
      subst hsz
      refine opOk_val (u := .pointer (some ⟨g, p + j.toNat * ie.size, none⟩)) (w' := w) ?_ (Post.same hs hv hK)
      unfold execOp
      simp only [ho]
      refine run_v ?_
      rw [hx, hi]
      have hc : 0 ≤ j ∧ j < (len : Int) := ⟨hj, by omega⟩
      simp [Instr.indexAt, run_underlying hsl, asIntOf, hc, hT.size hie, add_mk]
    · cases hsz
  split at h
  · rename_i f sz xs k j hev hei
    rw [hev] at hx; rw [hei] at hi'
    split at h
    rotate_left
    · cases h
    rename_i hsz
    simp only [Bool.and_eq_true] at hsz
    obtain ⟨hj, cells, hcl, h⟩ := h
    rw [forceD_eq] at h
    generalize hu : a.eval x = u at hx
    generalize hv : a.eval i = v at hi'
    cases hi'
    cases hx
    rename_i hr
    have hlt := lt_of_get hcl
    cases hr with
    | nil => simp at hcl
    | sl _ _ b o' cap u hS hx hcap hc hd =>
      refine fin hsz.1 hu hv hj hlt (.el f cells 0 b (o' + j.toNat * sz) hS (u j.toNat) fun q d hq => ⟨?_, hd j.toNat q d (by rw [hcl]; exact hq)⟩) h
      exact hc j.toNat q d (by rw [hcl]; exact hq)
  · rename_i n k j' j hev hei
    rw [hev] at hx; rw [hei] at hi'
    split at h
    rotate_left
    · cases h
    rename_i k2 E sz f xs hm
    split at h
    rotate_left
    · cases h
    rename_i hsz
    obtain ⟨rfl, hsz, _⟩ := hsz
    obtain ⟨hj, hlt, h⟩ := h
    generalize hu : a.eval x = u at hx
    generalize hv : a.eval i = v at hi'
    cases hi'
    cases hx
    rename_i hu1 hn
    obtain ⟨k', v, hn, hk, he⟩ := hn
    obtain ⟨rfl, h1, h2, h3⟩ := row_cells hs hm hn
    rcases h3 with ⟨_, h3⟩ | ⟨g', cap', us, h3, h4, _⟩
    · subst h3; simp at hlt
    have := he rfl
    subst this
    subst h3
    refine fin hsz hu hv hj hlt (.oq n k' sz _ 0 _ rfl ⟨k', _, hn, Nat.le_refl _, fun _ => ⟨g', xs.length, cap', rfl, ?_⟩⟩) h
    simp
  · rename_i n k s lo hi j' j hev hei
    rw [hev] at hx; rw [hei] at hi'
    split at h
    rotate_left
    · cases h
    rename_i k2 E sz f xs hm
    split at h
    rotate_left
    · cases h
    rename_i hsz
    obtain ⟨rfl, rfl, hsz, _⟩ := hsz
    obtain ⟨hj, hlt, h⟩ := h
    generalize hu : a.eval x = u at hx
    generalize hv : a.eval i = v at hi'
    cases hi'
    cases hx
    rename_i hu1 hn
    obtain ⟨k', v, hn, hk, he⟩ := hn
    obtain ⟨rfl, h1, h2, h3⟩ := row_cells hs hm hn
    obtain ⟨A, len, cap, A', e1, e2, e3, e4, e5⟩ := he rfl
    rcases h3 with ⟨h3, _⟩ | ⟨g', cap', us, h3, h4, _⟩
    · exfalso
      rw [h3] at e1; cases e1
      clear he
      omega
    rw [h3] at e1; cases e1
    subst e4
    clear he
    rw [e5 (by omega)] at hu
    simp only [Option.map_some, add_mk] at hu
    refine fin hsz hu hv hj hlt (.oq n k' s _ 0 _ rfl ⟨k', _, hn, Nat.le_refl _, fun _ => ⟨g', _, _, h3, ?_⟩⟩) h
    rw [Nat.add_mul]; simp
  · cases h
theorem ok_index (hT : TOk P T) (hs : Sat B w0 N S t m a w) {o : Oper} {ty : Nat} {x i : Operand} (ho : o.op = .index ty x i) {K : V → List (Option Bk) → Prop}
    (h : match T ty with
    | some ⟨_, _, _, _, .string⟩ => match evN t x, evN t i with
      | .cv (.string s), .cv (.int _ j) => 0 ≤ j ∧ ∃ b : UInt8, s[j.toNat]? = some b ∧ K (.cv (.int .u8 (b.toNat : Nat))) m
      | _, _ => False
    | _ => False) : OpOk P o a w (Post B w0 t a K) := by
  have hx := hs.evN x
  have hi := hs.evN i
  split at h
  rotate_left
  · cases h
  rename_i hti
  have hst := hT.kd_string hti rfl
  split at h
  rotate_left
  · cases h
  rename_i s k j hev hei
  rw [hev] at hx; rw [hei] at hi
  obtain ⟨hj, b, hb, h⟩ := h
  generalize hu : a.eval x = u at hx
  generalize hv : a.eval i = v at hi
  cases hi
  cases hx
  refine opOk_val (u := .int .u8 (b.toNat : Nat)) (w' := w) ?_ (Post.same hs (.cv _) h)
  unfold execOp
  simp only [ho]
  refine run_v ?_
  rw [hu, hv]
  simp [Instr.index, run_underlying hst, asIntOf, hj, hb]
theorem optInt_spec (hs : Sat B w0 N S t m a w) {d : Int} {x : Option Operand} {l : Int} (h : optInt (evN t) d x = some l) : (x = none ∧ l = d) ∨ ∃ y k, x = some y ∧ a.eval y = .int k l := by
  unfold optInt at h
  split at h
  · cases h; exact .inl ⟨rfl, rfl⟩
  · rename_i y
    split at h
    · rename_i k n hev
      cases h
      have := hs.evN y
      rw [hev] at this
      generalize hu : a.eval y = u at this
      cases this
      exact .inr ⟨y, k, rfl, hu⟩
    · cases h
theorem sliceBounds_run (hs : Sat B w0 N S t m a w) {b : Bool} {len cap : Nat} {lo hi : Option Operand} {l h : Int} (h1 : optInt (evN t) 0 lo = some l) (h2 : optInt (evN t) (len : Nat) hi = some h)
    (h0 : 0 ≤ l) (hlh : l ≤ h) (hle : h ≤ (cap : Nat)) : (Instr.sliceBounds b len cap (lo.map a.eval) (hi.map a.eval) none).run P w = .ok (l.toNat, h.toNat, cap) w := by
  have hbound : ∀ {k : IntKind} {i : Int} {y : Nat} {c : BoundsCode}, 0 ≤ i → i ≤ (y : Int) → (Instr.sliceBound (.int k i) y c).run P w = .ok i.toNat w := by
    intro k i y c a1 a2
    simp [Instr.sliceBound, asIntOf, a1, a2]
  have hh0 : 0 ≤ h := by omega
  have hl' : l ≤ (h.toNat : Int) := by omega
  rcases optInt_spec hs h1 with ⟨rfl, rfl⟩ | ⟨y, k, rfl, hy⟩ <;> rcases optInt_spec hs h2 with ⟨rfl, rfl⟩ | ⟨y', k', rfl, hy'⟩
  · simp [Instr.sliceBounds]
  · simp [Instr.sliceBounds, hy', hbound hh0 hle]
  · simp [Instr.sliceBounds, hy, hbound h0 (show l ≤ ((len : Nat) : Int) by omega)]
  · simp [Instr.sliceBounds, hy, hy', hbound hh0 hle, hbound h0 hl']
theorem ok_slice (hT : TOk P T) (hs : Sat B w0 N S t m a w) {o : Oper} {ty : Nat} {x : Operand} {lo hi mx : Option Operand} (ho : o.op = .slice ty x lo hi mx) {K : V → List (Option Bk) → Prop}
    (h : match (generalizing := false) T ty, mx with
    | some ⟨_, _, _, _, .string⟩, none => match evN t x with
      | .cv (.string s) => match optInt (evN t) 0 lo, optInt (evN t) (s.size : Nat) hi with
        | some l, some h => 0 ≤ l ∧ l ≤ h ∧ h ≤ (s.size : Nat) ∧ K (.cv (.string (s.extract l.toNat h.toNat))) m
        | _, _ => False
      | _ => False
    | some ⟨_, _, _, _, .slice e⟩, none => match evN t x with
      | .sl f sz xs => if sizeOk T e sz then
          match optInt (evN t) 0 lo, optInt (evN t) (xs.length : Nat) hi with
          | some l, some h => 0 ≤ l ∧ l ≤ h ∧ h ≤ (xs.length : Nat) ∧ K (.sl f sz ((xs.take h.toNat).drop l.toNat)) m
          | _, _ => False
        else False
      | .ow n k => match m[n]? with
        | some (some (.row k' _ sz _ xs)) => if k = k' ∧ sizeOk T e sz = true then
            match optInt (evN t) 0 lo, optInt (evN t) (xs.length : Nat) hi with
            | some l, some h => 0 ≤ l ∧ l ≤ h ∧ h ≤ (xs.length : Nat) ∧ K (.vw n k sz l.toNat h.toNat) m
            | _, _ => False
          else False
        | _ => False
      | .vw n k s lo' hi' => match m[n]? with
        | some (some (.row k' _ sz _ _)) => if k = k' ∧ s = sz ∧ sizeOk T e sz = true then
            match optInt (evN t) 0 lo, optInt (evN t) ((hi' - lo' : Nat) : Int) hi with
            | some l, some h => 0 ≤ l ∧ l ≤ h ∧ h ≤ ((hi' - lo' : Nat) : Int) ∧ K (.vw n k s (lo' + l.toNat) (lo' + h.toNat)) m
            | _, _ => False
          else False
        | _ => False
      | _ => False
    | _, _ => False) : OpOk P o a w (Post B w0 t a K) := by
  have hx := hs.evN x
  obtain rfl : mx = none := by
    cases mx with
    | none => rfl
    | some _ =>
      exfalso; revert h
      cases T ty with
      | none => simp
      | some i => obtain ⟨_, _, _, _, kd⟩ := i; cases kd <;> simp
  cases hti : T ty with
  | none => rw [hti] at h; exact h.elim
  | some i =>
  obtain ⟨size', bytes', agg', zero', kd⟩ := i
  cases kd <;> simp only [hti] at h
  rotate_left 2
  · have hst := hT.kd_string hti rfl
    split at h
    rotate_left
    · cases h
    rename_i s hev
    rw [hev] at hx
    generalize hu : a.eval x = u at hx
    cases hx
    split at h
    rotate_left
    · cases h
    rename_i l h' hl hh
    obtain ⟨h0, h1, h2, h⟩ := h
    refine opOk_val (u := .string (s.extract l.toNat h'.toNat)) (w' := w) ?_ (Post.same hs (.cv _) h)
    unfold execOp
    simp only [ho]
    refine run_v ?_
    rw [hu]
    simp [Instr.sliceAt, run_underlying hst, Instr.slice, sliceBounds_run hs hl hh h0 h1 h2]
  · rename_i e
    have hsl := hT.kd_slice hti rfl
    have run : ∀ {A : Option Addr} {len cap sz : Nat} {l h' : Int} {v : V}, a.eval x = .slice A len cap → sizeOk T e sz = true → optInt (evN t) 0 lo = some l → optInt (evN t) (len : Nat) hi = some h' → 0 ≤ l → l ≤ h' → h' ≤ (len : Nat) → len ≤ cap →
        RelV N S w v (.slice (if cap = l.toNat then A else A.map (·.add (l.toNat * sz))) (h'.toNat - l.toNat) (cap - l.toNat)) → K v m → OpOk P o a w (Post B w0 t a K) := by
      intro A len cap sz l h' v hu hsz hl hh h0 h1 h2 hc hv hK
      unfold sizeOk at hsz
      split at hsz
      rotate_left
      · cases hsz
      rename_i ie hie
      simp only [beq_iff_eq] at hsz
      subst hsz
      refine opOk_val (w' := w) ?_ (Post.same hs hv hK)
      unfold execOp
      simp only [ho]
      refine run_v ?_
      rw [hu]
      simp [Instr.sliceAt, run_underlying hsl, Instr.slice, sliceBounds_run hs hl hh h0 h1 (Int.le_trans h2 (Int.ofNat_le.2 hc)), hT.size hie]
    split at h
    rotate_left
    · rename_i n k hev
      rw [hev] at hx
      split at h
      rotate_left
      · cases h
      rename_i k2 E sz f xs hm
      split at h
      rotate_left
      · cases h
      rename_i hkk
      obtain ⟨rfl, hsz⟩ := hkk
      split at h
      rotate_left
      · cases h
      rename_i l h' hl hh
      obtain ⟨h0, h1, h2, h⟩ := h
      generalize hu : a.eval x = u at hx
      cases hx
      rename_i hu1 hn
      obtain ⟨k', v, hn, hk, he⟩ := hn
      obtain ⟨rfl, h3, h4, h5⟩ := row_cells hs hm hn
      have := he rfl
      subst this
      rcases h5 with ⟨rfl, rfl⟩ | ⟨g, cap, us, rfl, h6, h7, _⟩
      · refine run hu hsz hl hh h0 h1 h2 (Nat.le_refl _) (.vw _ _ _ _ _ _ rfl ⟨_, _, hn, Nat.le_refl _, fun _ => ⟨_, _, _, _, rfl, by omega, by simp at h2 ⊢; omega, rfl, fun hlt => ?_⟩⟩) h
        simp at h2; omega
      · refine run hu hsz hl hh h0 h1 h2 h7 (.vw _ _ _ _ _ _ rfl ⟨_, _, hn, Nat.le_refl _, fun _ => ⟨_, _, _, _, rfl, by omega, by omega, rfl, fun hlt => ?_⟩⟩) h
        rw [if_neg (by omega)]
    · rename_i n k s lo' hi' hev
      rw [hev] at hx
      split at h
      rotate_left
      · cases h
      rename_i k2 E sz f xs hm
      split at h
      rotate_left
      · cases h
      rename_i hkk
      obtain ⟨rfl, rfl, hsz⟩ := hkk
      split at h
      rotate_left
      · cases h
      rename_i l h' hl hh
      obtain ⟨h0, h1, h2, h⟩ := h
      generalize hu : a.eval x = u at hx
      cases hx
      rename_i hu1 hn
      obtain ⟨k', v, hn, hk, he⟩ := hn
      obtain ⟨rfl, h3, h4, h5⟩ := row_cells hs hm hn
      obtain ⟨A, len, cap, A', e1, e2, e3, e4, e5⟩ := he rfl
      clear he
      subst e4
      have hcap : len ≤ cap ∧ (A = none ∨ ∃ g, A = some ⟨g, 0, none⟩) := by
        rcases h5 with ⟨e6, _⟩ | ⟨g, cap', us, e6, _, h7, _⟩
        · rw [e1] at e6; cases e6; exact ⟨Nat.le_refl _, .inl rfl⟩
        · rw [e1] at e6; cases e6; exact ⟨h7, .inr ⟨g, rfl⟩⟩
      refine run hu hsz hl hh h0 h1 h2 (by omega) (.vw _ _ _ _ _ _ rfl ⟨_, _, hn, Nat.le_refl _, fun _ => ⟨_, _, _, _, e1, by omega, by omega, by rw [show h'.toNat - l.toNat = lo' + h'.toNat - (lo' + l.toNat) by omega, show cap - lo' - l.toNat = cap - (lo' + l.toNat) by omega], fun hlt => ?_⟩⟩) h
      rw [if_neg (by omega), e5 (by omega)]
      rcases hcap.2 with rfl | ⟨g, rfl⟩
      · rfl
      · simp only [Option.map_some, add_mk, Nat.add_mul, Nat.add_assoc]
    · cases h
    rename_i f sz xs hev
    rw [hev] at hx
    generalize hu : a.eval x = u at hx
    cases hx
    rename_i hr
    split at h
    rotate_left
    · cases h
    rename_i hsz
    split at h
    rotate_left
    · cases h
    rename_i l h' hl hh
    obtain ⟨h0, h1, h2, h⟩ := h
    have fin : ∀ {A : Option Addr} {cap : Nat}, u = .slice A xs.length cap → xs.length ≤ cap → RelD (S f) w (.sl sz ((xs.take h'.toNat).drop l.toNat)) (.slice (if cap = l.toNat then A else A.map (·.add (l.toNat * sz))) (h'.toNat - l.toNat) (cap - l.toNat)) → OpOk P o a w (Post B w0 t a K) := by
      intro A cap e1 e2 e3
      subst e1
      exact run hu hsz hl hh h0 h1 h2 e2 (.sl _ _ _ _ e3) h
    cases hr with
    | nil _ A cap =>
      have e1 : l.toNat = 0 := by simp at h2; omega
      have e2 : h'.toNat = 0 := by simp at h2; omega
      refine fin rfl (Nat.zero_le _) ?_
      rw [e1, e2]
      exact .nil _ _ _
    | sl _ _ b o' cap u hS hx hcap hc hd =>
      refine fin rfl hcap ?_
      have hh : h'.toNat ≤ xs.length := by omega
      by_cases hz : h'.toNat ≤ l.toNat
      · have e1 : (xs.take h'.toNat).drop l.toNat = [] := by
          apply List.drop_eq_nil_of_le; rw [List.length_take]; omega
        rw [e1, show h'.toNat - l.toNat = 0 by omega]
        exact .nil _ _ _
      · rw [if_neg (by omega)]
        have hlen : ((xs.take h'.toNat).drop l.toNat).length = h'.toNat - l.toNat := by
          rw [List.length_drop, List.length_take]; omega
        have hget : ∀ i, ((xs.take h'.toNat).drop l.toNat)[i]? = if l.toNat + i < h'.toNat then xs[l.toNat + i]? else none := by
          intro i; rw [List.getElem?_drop, List.getElem?_take]
        simp only [Option.map_some, add_mk]
        rw [← hlen]
        refine .sl _ _ b _ _ (fun i j => u (l.toNat + i) j) hS (fun y hy => hx y (List.mem_of_mem_take (List.mem_of_mem_drop hy))) (by omega) (fun i j d hd' => ?_) (fun i j d hd' => ?_)
        · rw [hget i] at hd'
          split at hd'
          · have := hc (l.toNat + i) j d hd'
            rw [← this]; congr 2; rw [Nat.add_mul]; omega
          · cases hd'
        · rw [hget i] at hd'
          split at hd'
          · exact hd _ _ _ hd'
          · cases hd'
end
end Go.Proofs.YtkpmlgpkmlhbjaaGreatDoor
namespace Go.Proofs.YtkpmlgpkmlhbjaaGreatDoor
open Go.RowKit
section
variable {P : Program} {T : Tab} {B : Fr} {w0 : World} {N : Names} {S : Sets} {t : List V} {m : List (Option Bk)} {a : Act} {w : World}
theorem run_and {k : IntKind} {a b : Int} : (Op.intBits .and k a b).run P w = .ok (.int k (k.wrap ((BitVec.ofInt k.bits a &&& BitVec.ofInt k.bits b).toNat : Nat))) w := rfl
theorem run_or {k : IntKind} {a b : Int} : (Op.intBits .or k a b).run P w = .ok (.int k (k.wrap ((BitVec.ofInt k.bits a ||| BitVec.ofInt k.bits b).toNat : Nat))) w := rfl
theorem run_xor {k : IntKind} {a b : Int} : (Op.intBits .xor k a b).run P w = .ok (.int k (k.wrap ((BitVec.ofInt k.bits a ^^^ BitVec.ofInt k.bits b).toNat : Nat))) w := rfl
theorem bit_and {k : IntKind} {a b : Int} {ty : TypeId} {xo yo : Operand} : (do eqGuard .and ty xo yo (.int k a) (.int k b); binOp .and ty (.int k a) (.int k b)).run P w = .ok (.int k (k.wrap ((BitVec.ofInt k.bits a &&& BitVec.ofInt k.bits b).toNat : Nat))) w := by
  simp [eqGuard, binOp]
  rw [run_and]
  simp
theorem bit_or {k : IntKind} {a b : Int} {ty : TypeId} {xo yo : Operand} : (do eqGuard .or ty xo yo (.int k a) (.int k b); binOp .or ty (.int k a) (.int k b)).run P w = .ok (.int k (k.wrap ((BitVec.ofInt k.bits a ||| BitVec.ofInt k.bits b).toNat : Nat))) w := by
  simp [eqGuard, binOp]
  rw [run_or]
  simp
theorem bit_xor {k : IntKind} {a b : Int} {ty : TypeId} {xo yo : Operand} : (do eqGuard .xor ty xo yo (.int k a) (.int k b); binOp .xor ty (.int k a) (.int k b)).run P w = .ok (.int k (k.wrap ((BitVec.ofInt k.bits a ^^^ BitVec.ofInt k.bits b).toNat : Nat))) w := by
  simp [eqGuard, binOp]
  rw [run_xor]
  simp
theorem binC_sound {op : BinOp} {ty : TypeId} {x y : Value} {xo yo : Operand} {K : Value → Prop} (h : binC op x y K) : ∃ v, (do eqGuard op ty xo yo x y; binOp op ty x y).run P w = .ok v w ∧ K v := by
  unfold binC at h
  split at h
  · rename_i k a k' b
    split at h
    · obtain ⟨h0, h⟩ := h
      exact ⟨_, by simp [eqGuard, binOp, Op.shift, show ¬ b < 0 by omega], h⟩
    · obtain ⟨h0, h⟩ := h
      exact ⟨_, by simp [eqGuard, binOp, Op.shift, show ¬ b < 0 by omega], h⟩
    split at h
    · cases h
    rename_i hk
    simp only [decide_eq_true_eq] at hk
    subst hk
    cases op <;> simp only at h <;> try (cases h; done)
    case and => exact ⟨_, bit_and, h⟩
    case or => exact ⟨_, bit_or, h⟩
    case xor => exact ⟨_, bit_xor, h⟩
    all_goals first
      | exact ⟨_, by simp [eqGuard, binOp, Op.intArith, Op.intCmp], h⟩
      | (obtain ⟨h0, h⟩ := h; exact ⟨_, by simp [eqGuard, binOp, Op.intDiv, h0], h⟩)
  · rename_i a b
    cases op <;> simp only at h <;> try (cases h; done)
    all_goals first
      | exact ⟨_, by simp [eqGuard, binOp, Op.stringOp], h⟩
      | (obtain ⟨h0, h⟩ := h
         refine ⟨_, ?_, h⟩
         have : ¬ (((a.size + b.size : Nat) : Int) > IntKind.i64.max) := by
           have e : IntKind.i64.max = 9223372036854775807 := by decide
           rw [e]; omega
         simp only [eqGuard, binOp, Op.stringOp]
         rw [if_neg this]; simp)
  · cases h
theorem binB_sound {op : BinOp} {ty : TypeId} {x y : Bool} {xo yo : Operand} (hty : P.underlying ty = some .bool) {K : Value → Prop} (h : binB op x y K) : ∃ v, (do eqGuard op ty xo yo (.bool x) (.bool y); binOp op ty (.bool x) (.bool y)).run P w = .ok v w ∧ K v := by
  have heq : (Op.equal ty (.bool x) (.bool y)).run P w = .ok (x == y) w := by
    exact run_equal_bool (P := P) w ty x y hty
  unfold binB at h
  cases op <;> simp only at h <;> try (cases h; done)
  · exact ⟨_, by simp [eqGuard, binOp, heq], h⟩
  · exact ⟨_, by simp [eqGuard, binOp, heq], h⟩
theorem allC_rel {cs : List V} {us : Array Value} (h : RelV N S w (.ag cs) (.agg us)) (hc : allC cs = true) : RelV (fun _ => none) (fun _ _ => False) w (.ag cs) (.agg us) := by
  cases h with
  | ag _ _ hl h =>
    refine .ag _ _ hl fun i v hv => ?_
    have : ∀ (l : List V), allC l = true → ∀ (i : Nat) (v : V), l[i]? = some v → ∃ u, v = .cv u := by
      intro l
      induction l with
      | nil => intro _ i v hv; simp at hv
      | cons y l ih =>
        intro h1 i v hv
        simp only [allC, Bool.and_eq_true] at h1
        cases i with
        | zero => simp at hv; subst hv; cases y <;> simp_all [V.isC]
        | succ i => exact ih h1.2 i v (by simpa using hv)
    obtain ⟨u, rfl⟩ := this cs hc i v hv
    have := h i _ hv
    generalize us.getD i undef = z at this
    cases this; exact .cv _
theorem ok_binOp (hT : TOk P T) (hs : Sat B w0 N S t m a w) {o : Oper} {op : BinOp} {ty yt : Nat} {x y : Operand} (ho : o.op = .binOp op ty x y yt) {K : V → List (Option Bk) → Prop}
    (h : match evN t x, evN t y with
    | .cv (.bool a), .cv (.bool b) => match T ty with
      | some ⟨_, _, _, _, .bool⟩ => binB op a b fun v => K (.cv v) m
      | _ => False
    | .cv (.slice none 0 0), .cv (.slice none 0 0) => match T ty with
      | some ⟨_, _, _, _, .slice _⟩ => (match (generalizing := false) op with
        | .eql => K (.cv (.bool true)) m
        | .neq => K (.cv (.bool false)) m
        | _ => False)
      | _ => False
    | .cv a, .cv b => binC op a b fun v => K (.cv v) m
    | .sl _ _ xs, .cv (.slice none 0 0) => match T ty with
      | some ⟨_, _, _, _, .slice _⟩ => xs ≠ [] ∧ (match (generalizing := false) op with
        | .eql => K (.cv (.bool false)) m
        | .neq => K (.cv (.bool true)) m
        | _ => False)
      | _ => False
    | .ag cs, .ag ds => if allC cs && allC ds then ∃ t, EqOk P ty cs ds t ∧ (match (generalizing := false) op with
      | .eql => K (.cv (.bool t)) m
      | .neq => K (.cv (.bool !t)) m
      | _ => False) else False
    | _, _ => False) : OpOk P o a w (Post B w0 t a K) := by
  have hx := hs.evN x
  have hy := hs.evN y
  have fin : ∀ {v : Value}, (do eqGuard op ty x y (a.eval x) (a.eval y); binOp op ty (a.eval x) (a.eval y)).run P w = .ok v w → K (.cv v) m → OpOk P o a w (Post B w0 t a K) := by
    intro v hr hK
    refine opOk_val (u := v) (w' := w) ?_ (Post.same hs (.cv _) hK)
    unfold execOp
    simp only [ho]
    exact run_v hr
  split at h
  · rename_i p q hp hq
    rw [hp] at hx; rw [hq] at hy
    generalize hu : a.eval x = u at hx fin
    generalize hv : a.eval y = v at hy fin
    cases hx; cases hy
    split at h
    · rename_i hti
      obtain ⟨v, h1, h2⟩ := binB_sound (hT.kd_bool hti rfl) h
      exact fin h1 h2
    · cases h
  · rename_i hp hq
    rw [hp] at hx; rw [hq] at hy
    generalize hu : a.eval x = u at hx fin
    generalize hv : a.eval y = v at hy fin
    cases hx; cases hy
    split at h
    rotate_left
    · cases h
    rename_i e hti
    have heq : (Op.equal ty (.slice none 0 0) (.slice none 0 0)).run P w = .ok true w := run_equal_slice_nil w ty e none 0 0 (hT.kd_slice hti rfl)
    cases op <;> simp only at h <;> try (cases h; done)
    · exact fin (v := .bool true) (by simp [eqGuard, binOp, heq]) h
    · exact fin (v := .bool false) (by simp [eqGuard, binOp, heq]) h
  · rename_i p q _ _ hp hq
    rw [hp] at hx; rw [hq] at hy
    generalize hu : a.eval x = u at hx fin
    generalize hv : a.eval y = v at hy fin
    cases hx; cases hy
    obtain ⟨v, h1, h2⟩ := binC_sound h
    exact fin h1 h2
  · rename_i f sz xs hp hq
    rw [hp] at hx; rw [hq] at hy
    generalize hu : a.eval x = u at hx fin
    generalize hv : a.eval y = v at hy fin
    cases hy
    split at h
    rotate_left
    · cases h
    rename_i e hti
    obtain ⟨hne, h⟩ := h
    cases hx
    rename_i hr
    cases hr with
    | nil => exact absurd rfl hne
    | sl _ _ b o' cap u' hS hx' hcap hc hd =>
      have heq : (Op.equal ty (.slice (some ⟨b, o', none⟩) xs.length cap) (.slice none 0 0)).run P w = .ok false w := run_equal_slice_nil w ty e _ _ _ (hT.kd_slice hti rfl)
      cases op <;> simp only at h <;> try (cases h; done)
      · exact fin (v := .bool false) (by simp [eqGuard, binOp, heq]) h
      · exact fin (v := .bool true) (by simp [eqGuard, binOp, heq]) h
  · rename_i cs ds hp hq
    rw [hp] at hx; rw [hq] at hy
    generalize hu : a.eval x = u at hx fin
    generalize hv : a.eval y = v at hy fin
    split at h
    rotate_left
    · cases h
    rename_i hc
    simp only [Bool.and_eq_true] at hc
    obtain ⟨tt, h1, h2⟩ := h
    cases hx; cases hy
    rename_i us hl hr vs hl' hr'
    obtain ⟨e1, e2⟩ := h1 w us vs (allC_rel (.ag _ _ hl hr) hc.1) (allC_rel (.ag _ _ hl' hr') hc.2)
    cases op <;> simp only at h2 <;> try (cases h2; done)
    · exact fin (v := .bool tt) (by simp [eqGuard, binOp, e1, e2]) h2
    · exact fin (v := .bool !tt) (by simp [eqGuard, binOp, e1, e2]) h2
  · cases h
theorem ok_unOp (hs : Sat B w0 N S t m a w) {o : Oper} {op : UnOp} {ty : Nat} {x : Operand} (ho : o.op = .unOp op ty x) {K : V → List (Option Bk) → Prop}
    (h : match (generalizing := false) op, evN t x with
    | .not, .cv (.bool b) => K (.cv (.bool !b)) m
    | .neg, .cv (.int k n) => K (.cv (.int k (k.wrap (0 - n)))) m
    | .xor, .cv (.int k n) => K (.cv (.int k (k.wrap ((BitVec.ofInt k.bits (if k.signed then -1 else k.max) ^^^ BitVec.ofInt k.bits n).toNat : Nat)))) m
    | _, _ => False) : OpOk P o a w (Post B w0 t a K) := by
  have hx := hs.evN x
  have fin : ∀ {v : Value}, (Op.unary op (a.eval x)).run P w = .ok v w → K (.cv v) m → OpOk P o a w (Post B w0 t a K) := by
    intro v hr hK
    refine opOk_val (u := v) (w' := w) ?_ (Post.same hs (.cv _) hK)
    unfold execOp
    simp only [ho]
    exact run_v hr
  split at h
  · rename_i b hp
    rw [hp] at hx
    generalize hu : a.eval x = u at hx fin
    cases hx
    exact fin (by simp [Op.unary]) h
  · rename_i k n hp
    rw [hp] at hx
    generalize hu : a.eval x = u at hx fin
    cases hx
    exact fin (by simp [Op.unary, Op.intArith]) h
  · rename_i k n hp
    rw [hp] at hx
    generalize hu : a.eval x = u at hx fin
    cases hx
    exact fin (by simp only [Op.unary]; exact run_xor) h
  · cases h
theorem bytesOf_spec : ∀ (xs : List (List D)) (b : List UInt8), bytesOf xs = some b → b.length = xs.length ∧ ∀ j (hj : j < b.length), xs[j]? = some [.cv (.int .u8 (b[j].toNat : Nat))]
  | [], b, h => by cases h; exact ⟨rfl, fun j hj => by simp at hj⟩
  | x :: l, b, h => by
    unfold bytesOf at h
    split at h
    · rename_i he; cases he
    · rename_i n l' he
      cases he
      split at h
      · rename_i b' hn hb
        cases h
        obtain ⟨h1, h2⟩ := bytesOf_spec l b' hb
        refine ⟨by simp [h1], fun j hj => ?_⟩
        cases j with
        | zero =>
          simp only [decide_eq_true_eq] at hn
          have e : ((UInt8.ofNat n.toNat).toNat : Int) = n := by rw [UInt8.toNat_ofNat']; omega
          show some [D.cv (.int .u8 n)] = some [D.cv (.int .u8 ((UInt8.ofNat n.toNat).toNat : Nat))]
          rw [e]
        | succ j => simpa using h2 j (by simpa using hj)
      · cases h
    · cases h
theorem ok_convert (hT : TOk P T) (hs : Sat B w0 N S t m a w) {o : Oper} {s d : Nat} {x : Operand} (ho : o.op = .convert s d x) {K : V → List (Option Bk) → Prop}
    (h : match T s, T d, evN t x with
    | some _, some ⟨_, _, _, _, .int k⟩, .cv (.int _ n) => K (.cv (.int k (k.wrap n))) m
    | some _, some ⟨_, _, _, _, .string⟩, .cv (.string b) => K (.cv (.string b)) m
    | some ⟨_, _, _, _, .slice e⟩, some ⟨_, _, _, _, .string⟩, .sl _ 1 xs => match T e with
      | some ⟨_, _, _, _, .int .u8⟩ => match bytesOf xs with
        | some b => K (.cv (.string ⟨b.toArray⟩)) m
        | none => False
      | _ => False
    | _, _, _ => False) : OpOk P o a w (Post B w0 t a K) := by
  have hx := hs.evN x
  have fin : ∀ {v : Value}, (convert s d (a.eval x)).run P w = .ok v w → K (.cv v) m → OpOk P o a w (Post B w0 t a K) := by
    intro v hr hK
    refine opOk_val (u := v) (w' := w) ?_ (Post.same hs (.cv _) hK)
    unfold execOp
    simp only [ho]
    exact run_v hr
  split at h
  · rename_i k k' n hsi hdi hp
    rw [hp] at hx
    generalize hu : a.eval x = u at hx fin
    cases hx
    obtain ⟨ds, hds, _⟩ := hT.und hsi
    exact fin (by simp [convert, run_underlying hds, run_underlying (hT.kd_int hdi rfl), Conv.intToInt]) h
  · rename_i b hsi hdi hp
    rw [hp] at hx
    generalize hu : a.eval x = u at hx fin
    cases hx
    obtain ⟨ds, hds, _⟩ := hT.und hsi
    exact fin (by simp [convert, run_underlying hds, run_underlying (hT.kd_string hdi rfl)]) h
  · rename_i e _ _ _ _ f xs hsi hdi hp
    rw [hp] at hx
    split at h
    rotate_left
    · cases h
    rename_i hie
    split at h
    rotate_left
    · cases h
    rename_i b hb
    generalize hu : a.eval x = u at hx fin
    cases hx
    rename_i hr
    have hss := hT.kd_slice hsi rfl
    have he := hT.kd_int hie rfl
    have hd := hT.kd_string hdi rfl
    refine fin ?_ h
    obtain ⟨hl, hg⟩ := bytesOf_spec xs b hb
    cases hr with
    | nil _ A cap =>
      have : b = [] := List.eq_nil_of_length_eq_zero hl
      subst this
      cases A with
      | none => exact run_convert_bytes_nil w s e hss he 0 cap d hd
      | some A => exact run_convert_bytes_back w s d e A cap [] hss he hd fun j hj => by simp at hj
    | sl _ _ q o' cap u hS hx hcap hc hdd =>
      rw [← hl]
      refine run_convert_bytes_back w s d e ⟨q, o', none⟩ cap b hss he hd fun j hj => ?_
      have h0 : ((xs[j]?).bind fun x => x[0]?) = some (.cv (.int .u8 (b[j].toNat : Nat))) := by rw [hg j hj]; rfl
      have h1 := hc j 0 _ h0
      have h2 := hdd j 0 _ h0
      generalize u j 0 = z at h1 h2
      cases h2
      rw [add_mk, show o' + j = o' + j * 1 + 0 by omega]
      exact h1
  · cases h
theorem ok_extract (hs : Sat B w0 N S t m a w) {o : Oper} {x : Operand} {i : Nat} (ho : o.op = .extract x i) {K : V → List (Option Bk) → Prop}
    (h : match evN t x with
    | .tu vs => match vs[i]? with
      | some v => K v m
      | none => False
    | _ => False) : OpOk P o a w (Post B w0 t a K) := by
  have hx := hs.evN x
  split at h
  rotate_left
  · cases h
  rename_i vs hp
  rw [hp] at hx
  split at h
  rotate_left
  · cases h
  rename_i v hv
  generalize hu : a.eval x = u at hx
  cases hx
  rename_i us hl hr
  have h1 := hr i v hv
  have hlt := lt_of_get hv
  have : us[i]? = some (us.getD i undef) := by simp [Array.getD_eq_getD_getElem?, show i < us.size by omega]
  generalize us.getD i undef = z at this h1
  refine opOk_val (u := z) (w' := w) ?_ (Post.same hs h1 h)
  unfold execOp
  simp only [ho]
  refine run_v ?_
  rw [hu]
  simp [Instr.extract, this]
theorem fold_get (vs : List Value) : ∀ (off k : Nat) (cs : Array Value), ∀ j, ((vs.zipIdx k).foldl (fun cs (p : Value × Nat) => cs.setIfInBounds (off + p.2) p.1) cs).getD j undef =
      (if off + k ≤ j ∧ j < off + k + vs.length ∧ j < cs.size then vs.getD (j - (off + k)) undef else cs.getD j undef) := by
  induction vs with
  | nil => intro off k cs j; rw [if_neg (by simp only [List.length_nil]; omega)]; rfl
  | cons v vs ih =>
    intro off k cs j
    simp only [List.zipIdx_cons, List.foldl_cons]
    rw [ih off (k + 1)]
    simp only [Array.size_setIfInBounds, List.length_cons]
    by_cases hj : off + k = j
    · subst hj
      rw [if_neg (by omega)]
      by_cases hlt : off + k < cs.size
      · rw [if_pos (by omega)]; simp [Array.getD_eq_getD_getElem?, hlt]
      · rw [if_neg (by omega)]; simp [Array.getD_eq_getD_getElem?, hlt]
    · by_cases hj2 : off + (k + 1) ≤ j ∧ j < off + (k + 1) + vs.length ∧ j < cs.size
      · rw [if_pos hj2, if_pos (by omega)]
        obtain ⟨q, rfl⟩ : ∃ q, j = off + k + 1 + q := ⟨j - (off + k + 1), by omega⟩
        rw [show off + k + 1 + q - (off + (k + 1)) = q by omega, show off + k + 1 + q - (off + k) = q + 1 by omega]
        simp
      · rw [if_neg hj2, if_neg (by omega)]
        simp [Array.getD_eq_getD_getElem?, hj]
theorem fold_size (l : List (Value × Nat)) (off : Nat) : ∀ (cs : Array Value), (l.foldl (fun cs (p : Value × Nat) => cs.setIfInBounds (off + p.2) p.1) cs).size = cs.size := by
  induction l with
  | nil => intro cs; rfl
  | cons p l ih => intro cs; simp only [List.foldl_cons]; rw [ih]; simp
theorem fill_sound (hs : Sat B w0 N S t m a w) {fs : List (Nat × Nat)} {place : Nat → Option (Nat × Nat)} (hpl : ∀ (i off ty : Nat) (ti : TI), fs[i]? = some (off, ty) → T ty = some ti → place i = some (off, ti.size)) (ps : List (Nat × Operand)) :
    ∀ (cs : List V) (us : Array Value), cs.length = us.size → (∀ i v, cs[i]? = some v → RelV N S w v (us.getD i undef)) → ∀ {K : List V → Prop}, buildV fs T (evN t) cs ps K →
      ∃ us' cs', Instr.fill place us (ps.map fun p => (p.1, a.eval p.2)) = some us' ∧ cs'.length = us'.size ∧ (∀ i v, cs'[i]? = some v → RelV N S w v (us'.getD i undef)) ∧ K cs' := by
  induction ps with
  | nil => intro cs us hl hr K h; exact ⟨us, cs, rfl, hl, hr, h⟩
  | cons p ps ih =>
    intro cs us hl hr K h
    obtain ⟨i, x⟩ := p
    simp only [buildV] at h
    split at h
    · cases h
    rename_i off ty hf
    split at h
    · cases h
    rename_i ti hti
    split at h
    rotate_left
    · cases h
    rename_i cs' hb hfv
    rw [forceL_eq] at h
    simp only [Bool.and_eq_true, beq_iff_eq] at hb
    have hne : evN t x ≠ .un := by intro e; rw [e] at hb; cases hb.1
    obtain ⟨c1, c2⟩ := (hs.evN x).cells hne
    obtain ⟨f1, f2, f3⟩ := fillV_spec _ _ _ _ hfv
    have hcond : ((a.eval x).cells.size ≠ ti.size || off + (a.eval x).cells.size > us.size) = false := by
      simp only [Bool.or_eq_false_iff, decide_eq_false_iff_not, ne_eq]
      exact ⟨by omega, by omega⟩
    simp only [List.map_cons, Instr.fill, hpl i off ty ti hf hti, hcond, Bool.false_eq_true, if_false]
    refine ih cs' _ ?_ ?_ h
    · rw [← Array.foldl_toList, Array.toList_zipIdx]
      rw [f2, hl]
      exact (fold_size _ off us).symm
    · intro j v hv
      have hlt := lt_of_get hv
      rw [f3 j] at hv
      have key := fold_get (a.eval x).cells.toList off 0 us j
      rw [← Array.foldl_toList, Array.toList_zipIdx]
      simp only [Nat.add_zero, Array.length_toList, getD_toList] at key
      refine (congrArg (RelV N S w v) key).mpr ?_
      by_cases hj : off ≤ j ∧ j < off + (evN t x).cells.length
      · rw [if_pos hj] at hv
        rw [if_pos (by omega)]
        exact c2 _ _ hv
      · rw [if_neg hj] at hv
        rw [if_neg (by omega)]
        exact hr _ _ hv
theorem ok_build (hT : TOk P T) (hs : Sat B w0 N S t m a w) {o : Oper} {ty : Nat} {ps : Array (Nat × Operand)} (ho : o.op = .build ty ps) {K : V → List (Option Bk) → Prop}
    (h : match T ty with
    | some ⟨_, _, _, zero, .struct fs⟩ => if fs.all (fun f => (T f.2).isSome) then buildV fs T (evN t) (zero.map .cv) ps.toList fun cs => K (.ag cs) m else False
    | _ => False) : OpOk P o a w (Post B w0 t a K) := by
  split at h
  rotate_left
  · cases h
  rename_i size' bytes' agg' zero fs hti
  split at h
  rotate_left
  · cases h
  rename_i hall
  obtain ⟨gs, hgs, hmap⟩ := hT.kd_struct hti rfl
  obtain ⟨j, hj, _, _, ⟨z, hz, hzc⟩, _⟩ := hT.get _ _ hti
  replace hzc : z.cells.toList = zero := hzc
  let places : List (Nat × Nat) := fs.map fun f => (f.1, ((T f.2).map (·.size)).getD 0)
  have hplaces : gs.toList.mapM (fun f => (P.info? f.type).map fun i => (f.offset, i.size)) = some places := by
    have : ∀ (l : List Field) (fs : List (Nat × Nat)), l.map (fun f => (f.offset, f.type)) = fs → fs.all (fun f => (T f.2).isSome) = true →
        l.mapM (fun f => (P.info? f.type).map fun i => (f.offset, i.size)) = some (fs.map fun f => (f.1, ((T f.2).map (·.size)).getD 0)) := by
      intro l
      induction l with
      | nil => intro fs h _; subst h; rfl
      | cons f l ih =>
        intro fs h h2
        subst h
        simp only [List.map_cons, List.all_cons, Bool.and_eq_true] at h2
        obtain ⟨ti, hti⟩ := Option.isSome_iff_exists.1 h2.1
        obtain ⟨j, hj, hsz, _⟩ := hT.get _ _ hti
        simp only [List.mapM_cons, hj, Option.map_some, Option.bind_eq_bind, Option.bind_some, Option.pure_def]
        rw [ih _ rfl h2.2]
        simp [hti, hsz]
    exact this _ _ hmap hall
  have hpl : ∀ (i off ty : Nat) (ti : TI), fs[i]? = some (off, ty) → T ty = some ti → (places.toArray[i]? : Option (Nat × Nat)) = some (off, ti.size) := by
    intro i off ty ti h1 h2
    simp [places, List.getElem?_map, h1, h2]
  obtain ⟨us', cs', h1, h2, h3, h4⟩ := fill_sound hs (place := (places.toArray[·]?)) hpl ps.toList (zero.map .cv) z.cells (by rw [← hzc]; simp) (fun i v hv => by
    rw [← hzc, List.getElem?_map, Option.map_eq_some_iff] at hv
    obtain ⟨u, hu, rfl⟩ := hv
    rw [getD_of_get hu]; exact .cv _) h
  refine opOk_val (u := .agg us') (w' := w) ?_ (Post.same hs (.ag _ _ h2 h3) h4)
  unfold execOp
  simp only [ho]
  refine run_v (run_build w ty _ us' ?_)
  simp only [Program.built, hj, hgs, hz, hplaces]
  rw [← h1]
  simp
end
end Go.Proofs.YtkpmlgpkmlhbjaaGreatDoor
