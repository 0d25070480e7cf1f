/- Texts joined by pack.py: XSxR XFd4 XFd7 XFf2 -/
import Derived.Test.YtmlednjhemnncaaFs14
import Derived.ChangeArms
import Derived.SizedLaws
import Derived.DataReads
import Derived.WideShapes
import Derived.Test.YtmlednjhemnncaaFs32
import Derived.DataShut
import Derived.Test.YtmlednjhemnncaaFs33
namespace Go.Proofs.Ytmlednjhemnncaa
open Go.RowKit
def szOf (T : Tab) (e : Nat) : Nat := match T e with | some i => i.size | none => 0
def byOf (T : Tab) (e : Nat) : Nat := match T e with | some i => i.bytes | none => 0
def DOkL (p : Nat → List D → Prop) : List (Nat × Nat) → List D → Prop
  | [], ds => ds = []
  | f :: fs, ds => ∃ a b, ds = a ++ b ∧ p f.2 a ∧ DOkL p fs b
def DOk (T : Tab) : Nat → Nat → List D → Prop
  | 0, _, _ => False
  | n + 1, ty, ds => match T ty with
    | none => False
    | some i => match i.kd with
      | .int k => ∃ z, ds = [.cv (.int k z)] ∧ (Lit.int k z).wf = true
      | .bool => ∃ b, ds = [.cv (.bool b)]
      | .string => ∃ s : ByteArray, ds = [.cv (.string s)] ∧ s.size ≤ reachBytes
      | .slice e => ∃ xs, ds = [.sl (szOf T e) xs] ∧ xs.length * byOf T e ≤ reachBytes ∧ xs.length ≤ maxLen ∧ ∀ x ∈ xs, DOk T n e x
      | .struct fs => DOkL (DOk T n) fs ds
      | _ => False
def contig (T : Tab) : Nat → List (Nat × Nat) → Option Nat
  | o, [] => some o
  | o, (off, ty) :: fs => if off = o then (match T ty with | some i => contig T (o + i.size) fs | none => none) else none
def okT (T : Tab) : Nat → Nat → Bool
  | 0, _ => false
  | n + 1, ty => match T ty with
    | none => false
    | some i => match i.kd with
      | .int _ | .bool | .string => i.size == 1
      | .slice e => i.size == 1 && (szOf T e != 0 && okT T n e)
      | .struct fs => contig T 0 fs == some i.size && fs.all fun f => okT T n f.2
      | _ => false
section
variable {P : Program} {T : Tab} {H : Type} {enc : TypeId × Value → H} {w : World} {spare : Nat → Bool} {held : Bool}
theorem TOk.cells (hT : TOk P T) {ty : Nat} {i : TI} (h : T ty = some i) : P.cellsOf ty = i.size ∧ P.bytesOf ty = i.bytes := by
  obtain ⟨j, h1, h2, h3, _⟩ := hT.get ty i h
  simp [Program.cellsOf, Program.bytesOf, h1, h2, h3]
theorem TOk.szOf (hT : TOk P T) {ty : Nat} (h : szOf T ty ≠ 0) : P.cellsOf ty = szOf T ty ∧ P.bytesOf ty = byOf T ty := by
  unfold Go.Proofs.Ytmlednjhemnncaa.szOf at h ⊢
  unfold byOf
  cases hi : T ty with
  | none => rw [hi] at h; exact absurd rfl h
  | some i => exact hT.cells hi
theorem get_of_cells? {a : Addr} {n : Nat} {cs : List Value} (h : w.cells? 0 a n = some cs) : cs.length = n ∧ ∀ j u, cs[j]? = some u → w.cell? (a.add j) = some u := by
  unfold World.cells? at h
  rw [if_pos (Nat.zero_le _)] at h
  have hl := mapM_some_length h
  simp at hl
  refine ⟨hl, fun j u hu => ?_⟩
  have hj : j < n := by have := lt_of_get hu; omega
  have := mapM_some_get h j j (by simp [hj])
  rw [this, hu]
theorem weights_sl {e : TypeId} {d : DataW H} : ∀ {l : List (DataW H)}, d ∈ l → ∀ n ∈ d.weights P e, n ∈ DataW.weightsAll P e l
  | x :: l, hd, n, hn => by
    simp only [DataW.weightsAll, List.mem_append]
    rcases List.mem_cons.1 hd with rfl | hd
    · exact .inl hn
    · exact .inr (weights_sl hd n hn)
theorem cells_one {v : Value} (h : v.oneCell' = true) : v.cells = #[v] := by
  cases v <;> simp_all [Value.oneCell', Value.cells]
set_option maxHeartbeats 1000000 in
theorem trod_read (hT : TOk P T) : ∀ (n ty fuel : Nat) (cs : List Value) (x : DataW H × List MemPlace), okT T n ty = true → DataW.trod enc P w 0 spare held fuel ty cs = some x → (∀ q ∈ x.1.weights P ty, q ≤ reachBytes) →
    ∃ ds, DOk T n ty ds ∧ ds.length = cs.length ∧ ∀ (i : Nat) (d : D), ds[i]? = some d → ∃ u : Value, cs[i]? = some u ∧ RelD (fun b => b < w.heap.size) w d u := by
  intro n
  induction n with
  | zero => intro ty fuel cs x h; cases h
  | succ n ih =>
    intro ty fuel cs x hok h hw
    simp only [okT] at hok
    cases hi : T ty with
    | none => rw [hi] at hok; cases hok
    | some i =>
    rw [hi] at hok
    obtain ⟨size, bytes, agg, zero, kd⟩ := i
    have one : ∀ {d : D} {u : Value}, RelD (fun b => b < w.heap.size) w d u → ∀ (i : Nat) (d' : D), [d][i]? = some d' → ∃ u' : Value, [u][i]? = some u' ∧ RelD (fun b => b < w.heap.size) w d' u' := by
      intro d u hr i d' hd
      cases i with
      | zero => simp at hd; subst hd; exact ⟨u, rfl, hr⟩
      | succ i => simp at hd
    cases kd with
    | int k =>
      obtain ⟨z, rfl, _, hz⟩ := DataW.trod_int (hT.kd_int hi rfl) h
      exact ⟨[.cv (.int k z)], by simp only [DOk, hi]; exact ⟨z, rfl, hz⟩, rfl, one (.cv _ rfl)⟩
    | bool =>
      obtain ⟨b, rfl, _⟩ := DataW.trod_bool (hT.kd_bool hi rfl) h
      exact ⟨[.cv (.bool b)], by simp only [DOk, hi]; exact ⟨b, rfl⟩, rfl, one (.cv _ rfl)⟩
    | string =>
      obtain ⟨s, rfl, rfl, _⟩ := DataW.trod_string (hT.kd_string hi rfl) h
      have := hw s.data.toList.length (by simp [DataW.weights])
      exact ⟨[.cv (.string s)], by simp only [DOk, hi]; exact ⟨s, rfl, by simpa using this⟩, rfl, one (.cv _ rfl)⟩
    | slice e =>
      simp only [Bool.and_eq_true, bne_iff_ne, ne_eq] at hok
      obtain ⟨_, hsz, hoke⟩ := hok
      obtain ⟨hc, hb⟩ := hT.szOf hsz
      have hu := hT.kd_slice hi rfl
      rcases DataW.trod_slice hu h with ⟨rfl, rfl⟩ | ⟨a, len, cap, elems, rest, m, rfl, rfl, rfl, _, hlc, hcm, hlen, hel, _, _⟩
      · exact ⟨[.sl (szOf T e) []], by simp only [DOk, hi]; exact ⟨[], rfl, by simp, by simp, by simp⟩, rfl, one (.nil _ _ _)⟩
      · rw [hc] at hel
        have helem : ∀ i, i < len → ∃ (ds : List D) (us : List Value), w.cells? 0 (a.add (i * szOf T e)) (szOf T e) = some us ∧ DOk T n e ds ∧ ds.length = us.length ∧ ∀ (j : Nat) (d : D), ds[j]? = some d → ∃ u : Value, us[j]? = some u ∧ RelD (fun b => b < w.heap.size) w d u := by
          intro i hlt
          have h1 := hel i hlt
          have hi' : i < elems.length := by omega
          rw [List.getElem?_eq_getElem hi', Option.bind_eq_some_iff] at h1
          obtain ⟨us, h2, h3⟩ := h1
          obtain ⟨ds, h4, h5, h6⟩ := ih e m us _ hoke h3 fun q hq => hw q (by
            simp only [DataW.weights, hu, List.mem_cons, List.mem_append]
            exact .inr (.inl (weights_sl (List.mem_map.2 ⟨_, List.getElem_mem hi', rfl⟩) q hq)))
          exact ⟨ds, us, h2, h4, h5, h6⟩
        let dsF : Nat → List D := fun i => if hlt : i < len then Classical.choose (helem i hlt) else []
        have hF : ∀ i, i < len → ∃ us : List Value, w.cells? 0 (a.add (i * szOf T e)) (szOf T e) = some us ∧ DOk T n e (dsF i) ∧ (dsF i).length = us.length ∧ ∀ (j : Nat) (d : D), (dsF i)[j]? = some d → ∃ u : Value, us[j]? = some u ∧ RelD (fun b => b < w.heap.size) w d u := by
          intro i hlt
          have := Classical.choose_spec (helem i hlt)
          simp only [dsF, hlt, dif_pos]
          exact this
        refine ⟨[.sl (szOf T e) ((List.range len).map dsF)], ?_, rfl, one ?_⟩
        · simp only [DOk, hi]
          refine ⟨_, rfl, ?_, by simp; omega, fun x hx => ?_⟩
          · have := hw ((elems.length + rest.length) * P.bytesOf e) (by simp [DataW.weights, hu])
            rw [hb] at this
            simp only [List.length_map, List.length_range]
            refine Nat.le_trans (Nat.mul_le_mul_right _ ?_) this
            omega
          · obtain ⟨i, hi', rfl⟩ := List.mem_map.1 hx
            exact (hF i (by simpa using hi')).choose_spec.2.1
        · by_cases h0 : len = 0
          · subst h0; exact .nil _ _ _
          have hcell : ∀ (i j : Nat) (d : D), i < len → (dsF i)[j]? = some d → ∃ u : Value, w.cell? ((a.add (i * szOf T e)).add j) = some u ∧ RelD (fun b => b < w.heap.size) w d u := by
            intro i j d hlt hd
            obtain ⟨us, h1, h2, h3, h4⟩ := hF i hlt
            obtain ⟨u, h5, h6⟩ := h4 j d hd
            exact ⟨u, (get_of_cells? h1).2 j u h5, h6⟩
          have hlenF : ∀ i, i < len → (dsF i).length = szOf T e := fun i hlt => by
            obtain ⟨us, h1, h2, h3, h4⟩ := hF i hlt
            rw [h3, (get_of_cells? h1).1]
          obtain ⟨b, o, spot⟩ := a
          obtain ⟨u0, h1, _⟩ := hcell 0 0 _ (by omega) (List.getElem?_eq_getElem (by rw [hlenF 0 (by omega)]; omega))
          have hspot : spot = none := by
            have := World.cell?_spot h1
            unfold Addr.add at this
            split at this <;> split at this <;> simp_all
          subst hspot
          have hlt := World.block_lt_of_cell? w _ h1
          simp only [add_mk] at hlt hcell
          have hl : ((List.range len).map dsF).length = len := by simp
          have hget : ∀ (i j : Nat) (d : D), (((List.range len).map dsF)[i]?.bind fun x => x[j]?) = some d → i < len ∧ (dsF i)[j]? = some d := by
            intro i j d hd
            rcases Nat.lt_or_ge i len with h' | h'
            · simp [h'] at hd; exact ⟨h', hd⟩
            · simp [h'] at hd
          suffices hs : RelD (fun b => b < w.heap.size) w (.sl (szOf T e) ((List.range len).map dsF)) (.slice (some ⟨b, o, none⟩) ((List.range len).map dsF).length cap) by rw [hl] at hs; exact hs
          refine RelD.sl (S := fun b => b < w.heap.size) _ _ b o cap (fun i j => (w.cell? ⟨b, o + i * szOf T e + j, none⟩).getD undef) hlt (fun x hx => ?_) (by rw [hl]; exact hlc) (fun i j d hd => ?_) (fun i j d hd => ?_)
          · obtain ⟨i, hi', rfl⟩ := List.mem_map.1 hx
            exact hlenF i (by simpa using hi')
          · obtain ⟨h2, h3⟩ := hget i j d hd
            obtain ⟨u, h4, _⟩ := hcell i j d h2 h3
            rw [h4]; rfl
          · obtain ⟨h2, h3⟩ := hget i j d hd
            obtain ⟨u, h4, h5⟩ := hcell i j d h2 h3
            rw [h4]; exact h5
    | struct fs =>
      simp only [Bool.and_eq_true, beq_iff_eq, List.all_eq_true] at hok
      obtain ⟨hcon, hall⟩ := hok
      obtain ⟨gs, hu, hgs⟩ := hT.kd_struct hi rfl
      obtain ⟨xs, m, rfl, rfl, hl, hxl, hf⟩ := DataW.trod_struct hu h
      rw [(hT.cells hi).1] at hl
      replace hl : cs.length = size := hl
      have key : ∀ (l : List (Nat × Nat)) (k o : Nat), fs.drop k = l → contig T o l = some size → ∃ ds, DOkL (DOk T n) l ds ∧ o + ds.length = size ∧ ∀ (i : Nat) (d : D), ds[i]? = some d → ∃ u : Value, cs[o + i]? = some u ∧ RelD (fun b => b < w.heap.size) w d u := by
        intro l
        induction l with
        | nil =>
          intro k o _ hc
          simp only [contig, Option.some.injEq] at hc
          exact ⟨[], rfl, by simp [hc], by simp⟩
        | cons f l ihl =>
          intro k o hk hc
          obtain ⟨off, fty⟩ := f
          simp only [contig] at hc
          split at hc
          rotate_left
          · cases hc
          rename_i hoff
          subst hoff
          cases hft : T fty with
          | none => rw [hft] at hc; cases hc
          | some fi =>
          rw [hft] at hc
          have hkf : fs[k]? = some (off, fty) := by
            have := congrArg (fun l => l[0]?) hk
            simpa using this
          have hg : ∃ g, gs[k]? = some g ∧ g.offset = off ∧ g.type = fty := by
            rw [← hgs, List.getElem?_map, Option.map_eq_some_iff] at hkf
            obtain ⟨g, hg, e⟩ := hkf
            simp only [Prod.mk.injEq] at e
            exact ⟨g, by simpa using hg, e.1, e.2⟩
          obtain ⟨g, hg, rfl, rfl⟩ := hg
          have h1 := hf k g hg
          have hlt : k < xs.length := by
            have : k < gs.size := (Array.getElem?_eq_some_iff.1 hg).1
            omega
          rw [List.getElem?_eq_getElem hlt, (hT.cells hft).1] at h1
          obtain ⟨da, h2, h3, h4⟩ := ih g.type m _ _ (hall _ (List.mem_of_getElem? hkf)) h1 fun q hq => hw q (by
            simp only [DataW.weights, hu]
            refine DataW.weights_mem_each (j := k) (t := g.type) (d := xs[k].1) ?_ ?_ q hq
            · rw [List.getElem?_map]; simp [hg]
            · simp [hlt])
          obtain ⟨db, h5, h6, h7⟩ := ihl (k + 1) (g.offset + fi.size) (by
            have := congrArg (List.drop 1) hk
            simpa [List.drop_drop, Nat.add_comm] using this) hc
          have hla : da.length = fi.size := by
            rw [h3, List.length_take, List.length_drop]; omega
          refine ⟨da ++ db, ⟨da, db, rfl, h2, h5⟩, by simp; omega, fun i d hd => ?_⟩
          rw [List.getElem?_append] at hd
          split at hd
          · rename_i hlt'
            obtain ⟨u, h8, h9⟩ := h4 i d hd
            rw [List.getElem?_take, if_pos (by omega), List.getElem?_drop] at h8
            exact ⟨u, h8, h9⟩
          · rename_i hge
            obtain ⟨u, h8, h9⟩ := h7 _ d hd
            refine ⟨u, ?_, h9⟩
            rw [← h8]; congr 1; omega
      obtain ⟨ds, h1, h2, h3⟩ := key fs 0 0 rfl hcon
      exact ⟨ds, by simp only [DOk, hi]; exact h1, by omega, fun i d hd => by simpa using h3 i d hd⟩
    | _ => cases hok
def dV : List D → V
  | [d] => d.v true
  | _ => .un
def vOf (T : Tab) (ty : Nat) (ds : List D) : V :=
  match T ty with
  | some i => if i.agg then .ag (ds.map (D.v true)) else dV ds
  | none => .un
open Go.WideShapes in
theorem read_arg (hT : TOk P T) {n ty : Nat} (hok : okT T n ty = true) {r : Reach} {b0 : Nat} {v : Value} {d : DataW H} {ps : List MemPlace} (hval : Value.okWide P w r b0 ty v)
    (h : DataW.Trod enc P w 0 spare held ty v d ps) (hw : ∀ q ∈ d.weights P ty, q ≤ reachBytes) : ∃ ds, DOk T n ty ds ∧ RelV (fun _ => none) (fun _ b => b < w.heap.size) w (vOf T ty ds) v := by
  obtain ⟨fuel, h⟩ := h
  obtain ⟨ds, h1, h2, h3⟩ := trod_read hT n ty fuel _ _ hok h hw
  refine ⟨ds, h1, ?_⟩
  cases n with
  | zero => cases hok
  | succ n =>
  simp only [okT] at hok
  unfold vOf
  cases hi : T ty with
  | none => rw [hi] at hok; cases hok
  | some i =>
  rw [hi] at hok
  have hagg := (hT.ok hi).1
  have one : i.agg = false → v.cells = #[v] → RelV (fun _ => none) (fun _ b => b < w.heap.size) w (if i.agg then .ag (ds.map (D.v true)) else dV ds) v := by
    intro e1 e2
    rw [e2] at h2 h3
    rw [e1]
    match ds, h2, h3 with
    | [d], _, h3 =>
      obtain ⟨u, hu, hr⟩ := h3 0 d rfl
      simp at hu; subst hu
      exact .ofD (S := fun _ b => b < w.heap.size) hr
    | [], _, _ => exact .un _
    | _ :: _ :: _, _, _ => exact .un _
  have many : ∀ us : Array Value, i.agg = true → v = .agg us → RelV (fun _ => none) (fun _ b => b < w.heap.size) w (if i.agg then .ag (ds.map (D.v true)) else dV ds) v := by
    rintro us e1 rfl
    rw [e1]
    simp only [Value.cells, Array.length_toList] at h2 h3
    refine .ag _ us (by simpa using h2) fun j c hc => ?_
    rw [List.getElem?_map, Option.map_eq_some_iff] at hc
    obtain ⟨d, hd, rfl⟩ := hc
    obtain ⟨u, hu, hr⟩ := h3 j d hd
    rw [getD_of_get hu]
    exact .ofD (S := fun _ b => b < w.heap.size) hr
  obtain ⟨size, bytes, agg, zero, kd⟩ := i
  cases kd with
  | int k => obtain ⟨z, rfl⟩ := okWide_int (hT.kd_int hi rfl) hval; exact one hagg rfl
  | bool => obtain ⟨z, rfl⟩ := okWide_bool (hT.kd_bool hi rfl) hval; exact one hagg rfl
  | string => obtain ⟨z, rfl⟩ := okWide_string (hT.kd_string hi rfl) hval; exact one hagg rfl
  | slice e => obtain ⟨a, l, c, rfl⟩ := okWide_slice (hT.kd_slice hi rfl) hval; exact one hagg rfl
  | struct fs =>
    obtain ⟨gs, hu, _⟩ := hT.kd_struct hi rfl
    obtain ⟨us, rfl, _⟩ := okWide_struct hu hval
    exact many us hagg rfl
  | _ => cases hok
theorem weights_cons {t : TypeId} {ts : List TypeId} {d : DataW H} {ds : List (DataW H)} (h : ∀ q ∈ DataW.weightsEach P (t :: ts) (d :: ds), q ≤ reachBytes) :
    (∀ q ∈ d.weights P t, q ≤ reachBytes) ∧ ∀ q ∈ DataW.weightsEach P ts ds, q ≤ reachBytes := by
  simp only [DataW.weightsEach, List.mem_append] at h
  exact ⟨fun q hq => h q (.inl hq), fun q hq => h q (.inr hq)⟩
theorem relL_nil {N : Names} {S : Sets} : RelL N S w [] [] := ⟨rfl, by simp⟩
theorem relL_cons {N : Names} {S : Sets} {v : V} {u : Value} {vs : List V} {us : List Value} (h : RelV N S w v u) (hl : RelL N S w vs us) : RelL N S w (v :: vs) (u :: us) := by
  refine ⟨by simp [hl.1], fun i x hx => ?_⟩
  cases i with
  | zero => simp at hx; subst hx; simpa using h
  | succ i => simpa using hl.2 i x (by simpa using hx)
end
end Go.Proofs.Ytmlednjhemnncaa
namespace Go.Proofs.Ytmlednjhemnncaa
open Go.RowKit
theorem reach_le {n : Nat} (h : n ≤ reachBytes) : n ≤ maxLen := Nat.le_trans h (by decide)
theorem map_ofF {A : Type} {f : A → List D} {p : A → Prop} : ∀ {xs : List (List D)}, (∀ x ∈ xs, ∃ a, x = f a ∧ p a) → ∃ l : List A, xs = l.map f ∧ ∀ a ∈ l, p a
  | [], _ => ⟨[], rfl, by simp⟩
  | x :: xs, h => by
    obtain ⟨a, rfl, ha⟩ := h x (by simp)
    obtain ⟨l, rfl, hl⟩ := map_ofF (xs := xs) fun y hy => h y (by simp [hy])
    exact ⟨a :: l, rfl, by simp [ha]; exact hl⟩
theorem read_opf {n : Nat} {ds : List D} (h : DOk TT (n + 3) 36 ds) : ∃ o : Opf, ds = opfD o ∧ o.j.id.size ≤ maxLen ∧ o.j.tn.size ≤ maxLen := by
  obtain ⟨_, _, rfl, ⟨k, rfl, _⟩, _, _, rfl, ⟨_, _, rfl, ⟨a, rfl, g1⟩, _, _, rfl, ⟨b, rfl, g2⟩, _, _, rfl, ⟨c, rfl, _⟩, rfl⟩, _, _, rfl, ⟨m, rfl, _⟩, rfl⟩ := h
  exact ⟨⟨k, ⟨a, b, c⟩, m⟩, rfl, reach_le g1, reach_le g2⟩
end Go.Proofs.Ytmlednjhemnncaa
namespace Go.Proofs.Ytmlednjhemnncaa
open Go.RowKit
theorem read_run {ds : List D} (h : DOk TT 6 24 ds) : ∃ (q : Int) (L : List Opf) (A B : ByteArray), vOf TT 24 ds = .ag [int q, .sl true 5 (L.map opfD), str A, str B] ∧ L.length ≤ 8796093022207 ∧ (∀ o ∈ L, o.j.id.size ≤ maxLen ∧ o.j.tn.size ≤ maxLen) ∧ A.size ≤ maxLen ∧ B.size ≤ maxLen := by
  obtain ⟨_, _, rfl, ⟨q, rfl, _⟩, _, _, rfl, ⟨xs, rfl, h1, _, h2⟩, _, _, rfl, ⟨a, rfl, g1⟩, _, _, rfl, ⟨b, rfl, g2⟩, rfl⟩ := h
  obtain ⟨l, rfl, hok⟩ := map_ofF (f := opfD) (p := fun o => o.j.id.size ≤ maxLen ∧ o.j.tn.size ≤ maxLen) fun x hx => read_opf (h2 x hx)
  refine ⟨q, l, a, b, rfl, ?_, hok, reach_le g1, reach_le g2⟩
  have : l.length * 56 ≤ 140737488351232 := by rw [List.length_map] at h1; exact h1
  omega
theorem dcalls_flag {P : Program} {f : FuncId} {a : V} {sz : Nat} {xs : List (List D)} {c d : V} {r : V} (h : DCalls P f [.ag [a, .sl false sz xs, c, d]] r) : DCalls P f [.ag [a, .sl true sz xs, c, d]] r :=
  ⟨h.1, fun w vs hg hv => h.2 w vs hg ⟨hv.1, fun i v hi => by
    match i with
    | 0 =>
      simp at hi; subst hi
      have h0 := hv.2 0 _ rfl
      generalize vs.getD 0 undef = u at h0
      cases h0 with
      | ag _ us hl hx =>
        refine .ag _ us (by simpa using hl) fun k v hk => ?_
        match k with
        | 0 => simp at hk; subst hk; exact hx 0 _ rfl
        | 1 =>
          simp at hk; subst hk
          have h1 := hx 1 _ rfl
          generalize us.getD 1 undef = u1 at h1
          cases h1 with
          | sl _ _ _ _ h => exact .sl false sz xs _ h
        | 2 => simp at hk; subst hk; exact hx 2 _ rfl
        | 3 => simp at hk; subst hk; exact hx 3 _ rfl
        | k + 4 => simp at hk
    | i + 1 => simp at hi⟩⟩
end Go.Proofs.Ytmlednjhemnncaa
namespace Go.Proofs.Ytmlednjhemnncaa
open Go.RowKit
theorem d_does (ds0 : List D) (h0 : DOk TT 6 24 ds0) : DCalls Try.prog 3 [vOf TT 24 ds0] (boo true) := by
  obtain ⟨q, L, A, B, e, h1, h2, h3, h4⟩ := read_run h0
  rw [e]
  exact dcalls_flag <| x_does q L A B h1 h2
end Go.Proofs.Ytmlednjhemnncaa
