/-
  A reader of code over states that name their own memory: what one operation does, part three.
-/
import Derived.Test.YtppkkonhfkegoaaSxE
namespace Go.Proofs.Ytppkkonhfkegoaa
open Go.RowKit

section
variable {P : Program} {T : Tab} {B : Fr} {w0 : World} {N : Names} {S : Sets} {t : List V} {m : List (Option Bk)} {a : Act} {w : World}

theorem ok_store (hT : TOk P T) (hs : Sat B w0 N S t m a w) {o : Oper} {ty : Nat} {x y : Operand} (ho : o.op = .store ty x y) {K : V → List (Option Bk) → Prop}
    (h : match T ty with
    | none => False
    | some i => match evN t x with
      | .bx n off => match m[n]? with
        | some (some (.box cs)) =>
          if allOne (evN t y).cells && (evN t y).cells.length == i.size then
            match fillV cs off (evN t y).cells with
            | some cs' => forceL cs' fun cs' => setK m n (some (.box cs')) fun m' => K .un m'
            | none => False
          else False
        | _ => False
      | .oq n k sz j off => match m[n]? with
        | some (some (.row k' E' s f xs)) =>
          if k = k' ∧ s = sz then
            match toDs (evN t y).cells with
            | some (ds, g) => if ds.length == i.size then (match f && g with
              | true => ∃ cells, xs[j]? = some cells ∧ off + ds.length ≤ cells.length ∧ setK m n (some (.row k' E' s true (xs.set j (cells.take off ++ ds ++ cells.drop (off + ds.length))))) fun m' => K .un m'
              | false => ∃ cells, xs[j]? = some cells ∧ off + ds.length ≤ cells.length ∧ setK m n (some (.row k' E' s false (xs.set j (cells.take off ++ ds ++ cells.drop (off + ds.length))))) fun m' => K .un m') else False
            | none => False
          else False
        | _ => False
      | _ => False) : OpOk P o a w (Post B w0 t a K) := by
  have hx := hs.evN x
  have hy := hs.evN y
  have fin : ∀ {g off : Nat} {w' : World}, a.eval x = .pointer (some ⟨g, off, none⟩) → (storeVar ty ⟨g, off, none⟩ (a.eval y)).run P w = .ok () w' → Post B w0 t a K undef w' → OpOk P o a w (Post B w0 t a K) := by
    intro g off w' hx hr hK
    refine opOk_skip (w' := w') ?_ hK
    unfold execOp
    simp only [ho]
    refine run_u ?_
    rw [hx]
    simp [Instr.storeAt, Instr.sureAddr, hr]
  split at h
  · cases h
  rename_i i hi
  generalize hev : evN t x = v at h hx
  cases v <;> simp only at h <;> try (cases h; done)
  · rename_i n off
    generalize hu : a.eval x = u at hx
    cases hx
    rename_i g hn
    split at h
    · rename_i cs hm
      split at h
      · rename_i hc
        simp only [Bool.and_eq_true, beq_iff_eq] at hc
        split at h
        · rename_i cs' hf
          rw [forceL_eq, setK_eq] at h
          obtain ⟨ty', us, h1, h2, h3, _⟩ := box_cells hs hm hn
          obtain ⟨hne, hone⟩ := hy.cells_one hc.1
          obtain ⟨hyl, hyr⟩ := hy.cells hne
          obtain ⟨f1, f2, f3⟩ := fillV_spec _ _ _ _ hf
          obtain ⟨w', us', hr, hupd, hsz, hval⟩ := storeVar_run (P := P) hT hi h1 hone (by omega) (off := off) (by omega)
          have hB := (hs.own n 0 _ g hn rfl).1
          obtain ⟨N', e1, e2, e3⟩ := hs.set (w' := w') (d := n) (k := 0) (v := .pointer (some ⟨g, 0, none⟩)) (b := .box cs') (lt_of_get hm) (fun k0 v0 h => by rw [hn] at h; cases h; exact .inl ⟨rfl, rfl⟩)
            (hupd.low hs.low hB) (by rw [hupd.size]; exact Nat.le_refl _) (fun g' _ hk => hupd.other g' fun e => hk 0 _ hn (by rw [e]; rfl))
            (fun g' hg' => by cases hg'; exact ⟨by rw [hupd.size]; exact (hs.own n 0 _ g hn rfl).2, .inr ⟨0, _, hn, rfl⟩⟩)
            (fun N' e1 e2 e3 => ⟨g, ty', us', e1, hupd.new, by omega, fun j v hv => by
              rw [hval j]
              rw [f3 j] at hv
              by_cases hj : off ≤ j ∧ j < off + (evN t y).cells.length
              · rw [if_pos hj] at hv
                rw [if_pos (by omega)]
                exact e2 _ _ (hyr _ _ hv)
              · rw [if_neg hj] at hv
                rw [if_neg (by omega)]
                exact e2 _ _ (h3 _ _ hv)⟩)
          exact fin hu hr ⟨N', S, _, _, e3, .un _, h⟩
        · cases h
      · cases h
    · cases h
  · rename_i n k sz j off
    generalize hu : a.eval x = u at hx
    cases hx
    rename_i hu1 hn
    obtain ⟨k', v, hn, hk, he⟩ := hn
    split at h
    · rename_i k2 E s f xs hm
      split at h
      · rename_i hkk
        obtain ⟨rfl, rfl⟩ := hkk
        split at h
        · rename_i ds g hds
          split at h
          · rename_i hdl
            simp only [beq_iff_eq] at hdl
            obtain ⟨cells, hcl, hle, h⟩ : ∃ cells, xs[j]? = some cells ∧ off + ds.length ≤ cells.length ∧ K .un (m.set n (some (.row k E s (f && g) (xs.set j (cells.take off ++ ds ++ cells.drop (off + ds.length)))))) := by
              split at h <;> rename_i hfg <;> (obtain ⟨cells, a1, a2, a3⟩ := h; rw [setK_eq] at a3; exact ⟨cells, a1, a2, by rw [hfg]; exact a3⟩)
            have hTF : ∀ b, S true b → S false b := fun b hb => (hs.fresh b hb).1
            have hdn : ∀ {d : D} {u : Value}, RelD (S f) w d u → RelD (S (f && g)) w d u := by
              intro d u hr
              have : ∀ f g : Bool, RelD (S f) w d u → RelD (S (f && g)) w d u := by
                intro f g hr
                cases f <;> cases g <;> first | exact hr | exact hr.mono hTF fun _ _ => rfl
              exact this f g hr
            have hb5 := hs.blk n _ hm
            obtain ⟨rfl, h1, h2, h3⟩ := row_cells hs hm hn
            obtain ⟨g0, len, cap, rfl, rfl⟩ := he rfl
            obtain ⟨hne, hdsl, hdr⟩ := toDs_one hTF hy hds
            replace hdr := hdr (f && g) fun e => by simp at e; exact e.2
            rcases h3 with ⟨h3, _⟩ | ⟨g', cap', us, h3, h4, h5, h5', h5'', h6⟩
            · cases h3
            cases h3
            have hcs : cells.length = s := h1 _ (List.mem_of_getElem? hcl)
            have hjx := lt_of_get hcl
            have hus : xs.length * s ≤ us.size := by rw [h5'']; exact Nat.mul_le_mul_right _ h5
            have hj1 : j * s + s ≤ xs.length * s := by
              calc j * s + s = (j + 1) * s := by rw [Nat.add_mul]; omega
                _ ≤ xs.length * s := Nat.mul_le_mul_right _ hjx
            have hone : ∀ c ∈ (a.eval y).cells.toList, c.oneCell' = true := by
              intro c hc
              obtain ⟨q, hq, rfl⟩ := List.getElem_of_mem hc
              simp only [Array.length_toList] at hq
              have := (hdr q ds[q] (List.getElem?_eq_getElem (by omega))).one
              simpa [Array.getD_eq_getD_getElem?, hq] using this
            obtain ⟨w', us', hr, hupd, hsz, hval⟩ := storeVar_run (P := P) hT hi h4 hone (by omega) (off := j * s + off) (by omega)
            have hB := (hs.own n _ _ g0 hn rfl).1
            have hlen : (cells.take off ++ ds ++ cells.drop (off + ds.length)).length = s := by
              simp only [List.length_append, List.length_take, List.length_drop]; omega
            have hcells' : ∀ q, (cells.take off ++ ds ++ cells.drop (off + ds.length))[q]? = if off ≤ q ∧ q < off + ds.length then ds[q - off]? else cells[q]? := by
              intro q
              by_cases hq : q < off
              · rw [if_neg (by omega), List.getElem?_append_left (by simp; omega), List.getElem?_append_left (by simp; omega), List.getElem?_take, if_pos hq]
              · by_cases hq2 : q < off + ds.length
                · rw [if_pos (by omega), List.getElem?_append_left (by simp; omega), List.getElem?_append_right (by simp; omega)]
                  congr 1; simp; omega
                · rw [if_neg (by omega), List.getElem?_append_right (by simp; omega), List.getElem?_drop]
                  congr 1; simp; omega
            obtain ⟨N', e1, e2, e3⟩ := hs.set (w' := w') (d := n) (k := k') (v := .slice (some ⟨g0, 0, none⟩) xs.length cap) (b := .row k' E s (f && g) (xs.set j (cells.take off ++ ds ++ cells.drop (off + ds.length)))) (lt_of_get hm)
              (fun k0 v0 h => by rw [hn] at h; cases h; exact .inl ⟨rfl, rfl⟩)
              (hupd.low hs.low hB) (by rw [hupd.size]; exact Nat.le_refl _) (fun g' _ hk => hupd.other g' fun e => hk _ _ hn (by rw [e]; rfl))
              (fun g' hg' => by cases hg'; exact ⟨by rw [hupd.size]; exact (hs.own n _ _ g0 hn rfl).2, .inr ⟨_, _, hn, rfl⟩⟩)
              (fun N' e1 e2 e4 => by
                have htl : (us'.toList.take (xs.length * s)).length = xs.length * s := by
                  have e : us'.toList.length = us'.size := by simp
                  rw [List.length_take, e]; omega
                refine ⟨_, us'.toList.take (xs.length * s), e1, ?_, ?_, h2, ?_, fun e q hq => by
                  obtain ⟨v9, us9, b1, _, _, _, _, b6⟩ := hb5
                  rw [hn] at b1; cases b1
                  simp at e; exact b6 e.1 q hq⟩
                · simp only [List.length_set]
                  exact ⟨htl, .inr ⟨g0, cap, us', rfl, Nat.zero_le _, hupd.new, h5, h5', by omega, rfl⟩⟩
                · intro c hc
                  rcases List.mem_or_eq_of_mem_set hc with hc | rfl
                  · exact h1 c hc
                  · exact hlen
                · intro i' q d hd
                  have hiq : i' < xs.length ∧ q < s := by
                    cases hi' : (xs.set j (cells.take off ++ ds ++ cells.drop (off + ds.length)))[i']? with
                    | none => rw [hi'] at hd; cases hd
                    | some c =>
                      rw [hi'] at hd
                      have a1 := lt_of_get hi'
                      have a2 := lt_of_get (show c[q]? = some d from hd)
                      rcases List.mem_or_eq_of_mem_set (List.mem_of_getElem? hi') with hc | rfl
                      · rw [h1 c hc] at a2; exact ⟨by simpa using a1, a2⟩
                      · rw [hlen] at a2; exact ⟨by simpa using a1, a2⟩
                  have hlt : i' * s + q < xs.length * s := by
                    calc i' * s + q < i' * s + s := by omega
                      _ = (i' + 1) * s := by rw [Nat.add_mul]; omega
                      _ ≤ xs.length * s := Nat.mul_le_mul_right _ hiq.1
                  refine ⟨us'.getD (i' * s + q) undef, by rw [List.getElem?_take, if_pos hlt]; exact get_of_lt (by omega), ?_⟩
                  rw [hval]
                  by_cases hij : i' = j
                  · subst hij
                    rw [List.getElem?_set_self hjx] at hd
                    simp only [Option.bind_some] at hd
                    rw [hcells' q] at hd
                    by_cases hq : off ≤ q ∧ q < off + ds.length
                    · rw [if_pos hq] at hd
                      rw [if_pos (by omega), show i' * s + q - (i' * s + off) = q - off by omega]
                      exact e4 _ _ _ (hdr _ _ hd)
                    · rw [if_neg hq] at hd
                      rw [if_neg (by omega)]
                      exact e4 _ _ _ (hdn (h6 i' q d (by rw [hcl]; exact hd)).2)
                  · rw [List.getElem?_set_ne (Ne.symm hij)] at hd
                    have : ¬ (j * s + off ≤ i' * s + q ∧ i' * s + q < j * s + off + (a.eval y).cells.size) := by
                      rcases Nat.lt_or_ge i' j with h | h
                      · have : i' * s + s ≤ j * s := by
                          calc i' * s + s = (i' + 1) * s := by rw [Nat.add_mul]; omega
                            _ ≤ j * s := Nat.mul_le_mul_right _ h
                        omega
                      · have : j * s + s ≤ i' * s := by
                          calc j * s + s = (j + 1) * s := by rw [Nat.add_mul]; omega
                            _ ≤ i' * s := Nat.mul_le_mul_right _ (by omega)
                        omega
                    rw [if_neg this]
                    exact e4 _ _ _ (hdn (h6 i' q d hd).2))
            exact fin hu hr ⟨N', S, _, _, e3, .un _, h⟩
          · cases h
        · cases h
      · cases h
    · cases h

theorem ok_move (hs : Sat B w0 N S t m a w) {o : Oper} {x : Operand} (ho : o.op = .move x ∨ o.op = .assign x) {K : V → List (Option Bk) → Prop} (h : K (evN t x) m) : OpOk P o a w (Post B w0 t a K) := by
  refine opOk_val (u := a.eval x) (w' := w) ?_ (Post.same hs (hs.evN x) h)
  unfold execOp
  rcases ho with ho | ho <;> simp only [ho] <;> rfl

theorem fieldPlace_run (hT : TOk P T) {ty : Nat} {i : TI} (hi : T ty = some i) (h0 : i.size ≠ 0) {f : Field} (hf : f.type = ty) (g o : Nat) : (fieldPlace ⟨g, o, none⟩ f).run P w = .ok ⟨g, o + f.offset, none⟩ w := by
  subst hf
  simp [fieldPlace, hT.size hi, h0, add_mk]

theorem fields_get {gs : Array Field} {fs : List (Nat × Nat)} (h : gs.toList.map (fun f => (f.offset, f.type)) = fs) {f off ty : Nat} (hf : fs[f]? = some (off, ty)) : ∃ fd, gs[f]? = some fd ∧ fd.offset = off ∧ fd.type = ty := by
  rw [← h, List.getElem?_map, Option.map_eq_some_iff] at hf
  obtain ⟨fd, h1, h2⟩ := hf
  cases h2
  exact ⟨fd, by simpa using h1, rfl, rfl⟩

theorem ok_fieldAddr (hT : TOk P T) (hs : Sat B w0 N S t m a w) {o : Oper} {s f : Nat} {x : Operand} (ho : o.op = .fieldAddr s x f) {K : V → List (Option Bk) → Prop}
    (h : match T s with
    | some ⟨_, _, _, _, .struct fs⟩ => match fs[f]? with
      | some (off, ty) =>
        match T ty with
        | some i => if i.size = 0 then False else
          match evN t x with
          | .bx n o => K (.bx n (o + off)) m
          | .el f cs o => K (.el f cs (o + off)) m
          | .oq n k sz j o => match m[n]? with
            | some (some (.row k' _ _ _ _)) => if k = k' then K (.oq n k sz j (o + off)) m else False
            | _ => False
          | _ => False
        | none => False
      | none => False
    | _ => False) : OpOk P o a w (Post B w0 t a K) := by
  have hx := hs.evN x
  split at h
  rotate_left
  · cases h
  rename_i fs hi
  split at h
  rotate_left
  · cases h
  rename_i off ty hf
  split at h
  rotate_left
  · cases h
  rename_i i hti
  split at h
  · cases h
  rename_i h0
  obtain ⟨gs, hgs, hmap⟩ := hT.kd_struct hi rfl
  obtain ⟨fd, hfd, rfl, rfl⟩ := fields_get hmap hf
  have fin : ∀ {g p : Nat} {v : V}, a.eval x = .pointer (some ⟨g, p, none⟩) → RelV N S w v (.pointer (some ⟨g, p + fd.offset, none⟩)) → K v m → OpOk P o a w (Post B w0 t a K) := by
    intro g p v hx hv hK
    refine opOk_val (u := .pointer (some ⟨g, p + fd.offset, none⟩)) (w' := w) ?_ (Post.same hs hv hK)
    unfold execOp
    simp only [ho]
    refine run_v ?_
    rw [hx]
    simp [Instr.fieldAt, run_underlying hgs, hfd, Instr.sureAddr, fieldPlace_run hT hti h0 rfl]
  split at h
  · rename_i n off' hev
    rw [hev] at hx
    generalize hu : a.eval x = u at hx
    cases hx
    rename_i g hn
    exact fin hu (.bx n _ g hn) h
  · rename_i f' cs off' hev
    rw [hev] at hx
    generalize hu : a.eval x = u at hx
    cases hx
    rename_i g p u hS hc
    exact fin hu (by rw [Nat.add_assoc]; exact .el f' cs _ g p hS u hc) h
  · rename_i n k sz j off' hev
    rw [hev] at hx
    generalize hu : a.eval x = u at hx
    cases hx
    rename_i hu1 hn
    obtain ⟨k', v, hn, hk, he⟩ := hn
    split at h
    · rename_i k2 E s xs hm
      split at h
      · rename_i hkk
        subst hkk
        obtain ⟨rfl, _⟩ := row_cells hs hm hn
        obtain ⟨b, len, cap, e1, e2⟩ := he rfl
        subst e2
        refine fin hu (.oq n _ sz j _ _ rfl ⟨_, v, hn, hk, fun _ => ⟨b, len, cap, e1, ?_⟩⟩) h
        rw [Nat.add_assoc]
      · cases h
    · cases h
  · cases h

end
end Go.Proofs.Ytppkkonhfkegoaa
