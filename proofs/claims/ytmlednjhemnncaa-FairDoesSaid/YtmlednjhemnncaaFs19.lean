/- Texts joined by pack.py: XIdent XIdent2 XIdent3 XFa0 XFa1 XFa2 -/
import Derived.Test.YtmlednjhemnncaaRows
import Derived.WalkKit
import Derived.WalkSpells
import Derived.WalkLawsBesides
import Derived.Lib.Hide
import Derived.Laws.RangeAny
import Derived.Test.YtmlednjhemnncaaFs14
import Derived.Test.YtmlednjhemnncaaFs18
namespace Go.Proofs.Ytmlednjhemnncaa
open Go.RowKit
theorem retb {a b : Bool} (h : a = b) : Ending.returned (.bool a) = .returned (.bool b) := by rw [h]
def smallI (c : Int) : Bool := decide (97 ≤ c) && decide (c ≤ 122)
def digitI (c : Int) : Bool := decide (48 ≤ c) && decide (c ≤ 57)
def letterI (c : Int) : Bool := smallI c || digitI c || (decide (65 ≤ c) && decide (c ≤ 90)) || c == 45 || c == 95 || c == 46 || c == 58 || c == 47
set_option maxHeartbeats 400000 in
theorem small_any (c : Int) (w : World) :
    Calls Try.prog 46 #[.int .i32 c] w fun e w' => e = .returned (.bool (smallI c)) ∧ w = w' := by
  go_enter Try.func46, Try.ntmps46
  go_wp2
  all_goals
    go_ret
    exact ⟨retb (by simp [smallI]; try omega), rfl⟩
set_option maxHeartbeats 400000 in
theorem digit_any (c : Int) (w : World) :
    Calls Try.prog 47 #[.int .i32 c] w fun e w' => e = .returned (.bool (digitI c)) ∧ w = w' := by
  go_enter Try.func47, Try.ntmps47
  go_wp2
  all_goals
    go_ret
    exact ⟨retb (by simp [digitI]; try omega), rfl⟩
set_option maxHeartbeats 400000 in
theorem rsmall_any (c : Int) (w : World) :
    Calls Try.prog 52 #[.int .u8 c] w fun e w' => e = .returned (.bool (smallI c)) ∧ w = w' := by
  go_enter Try.func52, Try.ntmps52
  go_wp2
  all_goals
    go_ret
    exact ⟨retb (by simp [smallI]; try omega), rfl⟩
set_option maxHeartbeats 400000 in
theorem rdigit_any (c : Int) (w : World) :
    Calls Try.prog 53 #[.int .u8 c] w fun e w' => e = .returned (.bool (digitI c)) ∧ w = w' := by
  go_enter Try.func53, Try.ntmps53
  go_wp2
  all_goals
    go_ret
    exact ⟨retb (by simp [digitI]; try omega), rfl⟩
set_option maxHeartbeats 800000 in
theorem letter_any (c : Int) (w : World) :
    Calls Try.prog 45 #[.int .i32 c] w fun e w' => e = .returned (.bool (letterI c)) ∧ w = w' := by
  go_enter Try.func45, Try.ntmps45
  go_wp2_with (first
    | (go_at_call 46; refine (small_any _ _).mono ?_; rintro e w' ⟨rfl, rfl⟩)
    | (go_at_call 47; refine (digit_any _ _).mono ?_; rintro e w' ⟨rfl, rfl⟩))
  all_goals
    go_ret
    exact ⟨retb (by first | (simp [letterI, *]; done) | (simp [letterI, *]; omega) | (rw [Bool.eq_iff_iff]; simp [letterI, *]; omega)), rfl⟩
set_option maxHeartbeats 800000 in
theorem rpart_any (c : Int) (w : World) :
    Calls Try.prog 51 #[.int .u8 c] w fun e w' => e = .returned (.bool (letterI c)) ∧ w = w' := by
  go_enter Try.func51, Try.ntmps51
  go_wp2_with (first
    | (go_at_call 52; refine (rsmall_any _ _).mono ?_; rintro e w' ⟨rfl, rfl⟩)
    | (go_at_call 53; refine (rdigit_any _ _).mono ?_; rintro e w' ⟨rfl, rfl⟩))
  all_goals
    go_ret
    exact ⟨retb (by first | (simp [letterI, *]; done) | (simp [letterI, *]; omega) | (rw [Bool.eq_iff_iff]; simp [letterI, *]; omega)), rfl⟩
def nameC (first : Bool) (c : Int) : Bool := smallI c || (!first && (digitI c || c == 45 || c == 95))
def nameB (s : ByteArray) : Bool := (List.range s.size).all (fun i => nameC (i == 0) (s.get! i).toNat) && (decide (1 ≤ s.size) && decide (s.size ≤ 24))
def idB (s : ByteArray) : Bool := (List.range s.size).all (fun i => letterI (s.get! i).toNat) && (decide (1 ≤ s.size) && decide (s.size ≤ 64))
theorem letterI_high (c : Int) (h : 128 ≤ c) : letterI c = false := by
  simp [letterI, smallI, digitI]; omega
theorem nameC_high (f : Bool) (c : Int) (h : 128 ≤ c) : nameC f c = false := by
  simp [nameC, smallI, digitI]; omega
theorem get_bang (s : ByteArray) (i : Nat) (h : i < s.size) : s.get! i = s[i] := by
  have := get_at s i h
  simpa using this
theorem all_no (s : ByteArray) (f : Nat → Int → Bool) (x : Bool) (i : Nat) (h : i < s.size) (hn : f i s[i].toNat = false) : ((List.range s.size).all (fun i => f i (s.get! i).toNat) && x) = false := by
  have : ((List.range s.size).all (fun i => f i (s.get! i).toNat)) = false := by
    rw [Bool.eq_false_iff]
    intro hh
    rw [List.all_eq_true] at hh
    have := hh i (List.mem_range.2 h)
    rw [get_bang s i h, hn] at this
    cases this
  rw [this]; rfl
theorem all_yes (s : ByteArray) (f : Nat → Int → Bool) (x : Bool) (hy : ∀ i (h : i < s.size), f i s[i].toNat = true) : ((List.range s.size).all (fun i => f i (s.get! i).toNat) && x) = x := by
  have : ((List.range s.size).all (fun i => f i (s.get! i).toNat)) = true := by
    rw [List.all_eq_true]
    intro i hi
    have h := List.mem_range.1 hi
    rw [get_bang s i h]
    exact hy i h
  rw [this]; rfl
theorem rune_step (s : ByteArray) (pos : Nat) (hp : pos < s.size) (f : Int → Bool) (hf : ∀ c, 128 ≤ c → f c = false) :
    (f (Utf8.decode s pos).1 = false → f s[pos].toNat = false) ∧ (f (Utf8.decode s pos).1 = true → f s[pos].toNat = true ∧ (Utf8.decode s pos).2 = 1) := by
  by_cases ha : s[pos].toNat < 128
  · rw [decode_ascii s pos hp ha]; exact ⟨fun h => h, fun h => ⟨h, rfl⟩⟩
  · have h := decode_high s pos hp (by omega)
    rw [hf (Utf8.decode s pos).1 (by omega), hf s[pos].toNat (by omega)]
    exact ⟨fun h => h, fun h => by cases h⟩
theorem ext_ok {s : ByteArray} {f : Nat → Int → Bool} {pos n : Nat} (hp : pos < s.size) (hall : ∀ i (h : i < s.size), i < pos → f i s[i].toNat = true) (h1 : f pos s[pos].toNat = true ∧ n = 1) :
    pos + n ≤ s.size ∧ ∀ i (h : i < s.size), i < pos + n → f i s[i].toNat = true := by
  obtain ⟨h1, rfl⟩ := h1
  refine ⟨by omega, fun i h hi => ?_⟩
  by_cases e : i = pos
  · subst e; exact h1
  · exact hall i h (by omega)
set_option maxHeartbeats 1000000 in
theorem name_any (s : ByteArray) (w : World) (hs : s.size ≤ maxLen) :
    Calls Try.prog 30 #[.string s] w fun e w' => e = .returned (.bool (nameB s)) ∧ Below w.heap.size w w' := by
  unfold maxLen at hs
  go_enter Try.func30, Try.ntmps30
  go_wp2_with fail
  go_loopw [3, 4] (fun _ _ w' => ∃ pos : Nat, w' = w.iter s pos ∧ pos ≤ s.size ∧ ∀ i (h : i < s.size), i < pos → nameC (i == 0) s[i].toNat = true) (fun _ _ w' => s.size - w'.iterPos w.heap.size)
  case atStart => exact ⟨0, rfl, Nat.zero_le _, fun i h h0 => absurd h0 (by omega)⟩
  case round =>
    obtain ⟨pos, rfl, hle, hall⟩ := hrel
    have Hall := Lib.hid hall; clear hall
    by_cases hp : pos < s.size
    · have hnx : ∀ ty, (Instr.next (.pointer (some ⟨w.heap.size, 0, none⟩)) true ty).run Try.prog (w.iter s pos) = _ := fun ty => run_next_any w s pos ty hp
      have st := rune_step s pos hp (nameC (pos == 0)) (nameC_high _)
      generalize hd : Utf8.decode s pos = d at st hnx
      clear hd
      obtain ⟨c, n⟩ := d
      simp only at st hnx
      have St := Lib.hid st; clear st
      go_wp2_with (first
        | (go_at_call 46; refine (small_any _ _).mono ?_; rintro e w' ⟨rfl, rfl⟩)
        | (go_at_call 47; refine (digit_any _ _).mono ?_; rintro e w' ⟨rfl, rfl⟩))
      all_goals
        first
          | (have hbad : nameC (pos == 0) c = false := by (simp_all [nameC]; done)
             go_ret
             exact ⟨retb (all_no s (fun i => nameC (i == 0)) _ pos hp (St.out.1 hbad)).symm, (Below.refl _ _).alloc (Nat.le_refl _) _⟩)
          | (have hgood : nameC (pos == 0) c = true := by (simp_all [nameC]; done)
             have hx := ext_ok (f := fun i => nameC (i == 0)) hp Hall.out (St.out.2 hgood)
             have h1 := (St.out.2 hgood).2
             clear hgood
             go_roundw
             case rel => exact ⟨pos + n, rfl, hx⟩
             case measure => simp; omega)
    · have hnx : ∀ ty, (Instr.next (.pointer (some ⟨w.heap.size, 0, none⟩)) true ty).run Try.prog (w.iter s pos) = _ := fun ty => run_next_end w s pos ty hp
      go_wp2
      all_goals
        go_ret
        refine ⟨retb (Eq.trans ?_ (all_yes s (fun i => nameC (i == 0)) _ (fun i h => Hall.out i h (by omega))).symm), (Below.refl _ _).alloc (Nat.le_refl _) _⟩
        first
          | (simp; done)
          | (simp; omega)
          | (rw [Bool.eq_iff_iff]; simp; omega)
end Go.Proofs.Ytmlednjhemnncaa
namespace Go.Proofs.Ytmlednjhemnncaa
open Go.RowKit
set_option maxHeartbeats 1000000 in
theorem id_any (s : ByteArray) (w : World) (hs : s.size ≤ maxLen) :
    Calls Try.prog 29 #[.string s] w fun e w' => e = .returned (.bool (idB s)) ∧ Below w.heap.size w w' := by
  unfold maxLen at hs
  go_enter Try.func29, Try.ntmps29
  go_wp2_with fail
  go_loopw [4] (fun _ w' => ∃ pos : Nat, w' = w.iter s pos ∧ pos ≤ s.size ∧ ∀ i (h : i < s.size), i < pos → letterI s[i].toNat = true) (fun _ w' => s.size - w'.iterPos w.heap.size)
  case atStart => exact ⟨0, rfl, Nat.zero_le _, fun i h h0 => absurd h0 (by omega)⟩
  case round =>
    obtain ⟨pos, rfl, hle, hall⟩ := hrel
    have Hall := Lib.hid hall; clear hall
    by_cases hp : pos < s.size
    · have hnx : ∀ ty, (Instr.next (.pointer (some ⟨w.heap.size, 0, none⟩)) true ty).run Try.prog (w.iter s pos) = _ := fun ty => run_next_any w s pos ty hp
      have st := rune_step s pos hp letterI letterI_high
      generalize hd : Utf8.decode s pos = d at st hnx
      clear hd
      obtain ⟨c, n⟩ := d
      simp only at st hnx
      have St := Lib.hid st; clear st
      go_wp2_with (go_at_call 45; refine (letter_any _ _).mono ?_; rintro e w' ⟨rfl, rfl⟩)
      all_goals
        first
          | (have hbad : letterI c = false := by (simp_all; done)
             go_ret
             exact ⟨retb (all_no s (fun _ => letterI) _ pos hp (St.out.1 hbad)).symm, (Below.refl _ _).alloc (Nat.le_refl _) _⟩)
          | (have hgood : letterI c = true := by (simp_all; done)
             have hx := ext_ok (f := fun _ => letterI) hp Hall.out (St.out.2 hgood)
             have h1 := (St.out.2 hgood).2
             clear hgood
             go_roundw
             case rel => exact ⟨pos + n, rfl, hx⟩
             case measure => simp; omega)
    · have hnx : ∀ ty, (Instr.next (.pointer (some ⟨w.heap.size, 0, none⟩)) true ty).run Try.prog (w.iter s pos) = _ := fun ty => run_next_end w s pos ty hp
      go_wp2
      all_goals
        go_ret
        refine ⟨retb (Eq.trans ?_ (all_yes s (fun _ => letterI) _ (fun i h => Hall.out i h (by omega))).symm), (Below.refl _ _).alloc (Nat.le_refl _) _⟩
        first
          | (simp; done)
          | (simp; omega)
          | (rw [Bool.eq_iff_iff]; simp; omega)
theorem nameB_size (s : ByteArray) (h : s.size < 1 ∨ 24 < s.size) : nameB s = false := by
  unfold nameB
  have : (decide (1 ≤ s.size) && decide (s.size ≤ 24)) = false := by rw [Bool.eq_false_iff]; simp; omega
  rw [this, Bool.and_false]
theorem idB_size (s : ByteArray) (h : s.size < 1 ∨ 64 < s.size) : idB s = false := by
  unfold idB
  have : (decide (1 ≤ s.size) && decide (s.size ≤ 64)) = false := by rw [Bool.eq_false_iff]; simp; omega
  rw [this, Bool.and_false]
set_option maxHeartbeats 1000000 in
theorem rid_any (s : ByteArray) (w : World) (hs : s.size ≤ maxLen) :
    Calls Try.prog 34 #[.string s] w fun e w' => e = .returned (.bool (idB s)) ∧ Below w.heap.size w w' := by
  unfold maxLen at hs
  by_cases hz : s.size < 1 ∨ 64 < s.size
  · have hf := Lib.hid (idB_size s hz)
    go_enter Try.func34, Try.ntmps34
    by_cases h1 : s.size < 1
    all_goals
      go_wp2
      go_ret
      exact ⟨retb hf.out.symm, Below.refl _ _⟩
  · have h1 : 1 ≤ s.size := by omega
    have h2 : s.size ≤ 64 := by omega
    clear hz
    go_enter Try.func34, Try.ntmps34
    go_wp2
    go_loop [3] (fun i => ∃ k : Nat, k ≤ s.size ∧ i = .int .i64 k ∧ ∀ i (h : i < s.size), i < k → letterI s[i].toNat = true) (fun i => s.size - (intOf i).toNat)
    case atStart => exact ⟨0, Nat.zero_le _, rfl, fun i h h0 => absurd h0 (by omega)⟩
    case round =>
      obtain ⟨k, hk, rfl, hall⟩ := hrel
      have Hall := Lib.hid hall; clear hall
      by_cases hp : k < s.size
      · go_wp2_with (go_at_call 51; refine (rpart_any _ _).mono ?_; rintro e w' ⟨rfl, rfl⟩)
        all_goals
          first
            | (have hbad : letterI s[k].toNat = false := by (simp_all; done)
               go_ret
               exact ⟨retb (all_no s (fun _ => letterI) _ k hp hbad).symm, Below.refl _ _⟩)
            | (have hgood : letterI s[k].toNat = true := by (simp_all; done)
               have hx := ext_ok (n := 1) (f := fun _ => letterI) hp Hall.out ⟨hgood, rfl⟩
               clear hgood
               go_round
               case rel => exact ⟨k + 1, hx.1, by go_num, hx.2⟩
               case measure => simp [intOf]; omega)
      · go_wp2
        go_ret
        refine ⟨retb (Eq.trans ?_ (all_yes s (fun _ => letterI) _ (fun i h => Hall.out i h (by omega))).symm), Below.refl _ _⟩
        simp; omega
end Go.Proofs.Ytmlednjhemnncaa
namespace Go.Proofs.Ytmlednjhemnncaa
open Go.RowKit
set_option maxHeartbeats 1000000 in
theorem rname_any (s : ByteArray) (w : World) (hs : s.size ≤ maxLen) :
    Calls Try.prog 35 #[.string s] w fun e w' => e = .returned (.bool (nameB s)) ∧ Below w.heap.size w w' := by
  unfold maxLen at hs
  by_cases hz : s.size < 1 ∨ 24 < s.size
  · have hf := Lib.hid (nameB_size s hz)
    go_enter Try.func35, Try.ntmps35
    by_cases h1 : s.size < 1
    all_goals
      go_wp2
      go_ret
      exact ⟨retb hf.out.symm, Below.refl _ _⟩
  · have h1 : 0 < s.size := by omega
    have h2 : s.size ≤ 24 := by omega
    clear hz
    by_cases hb : smallI (s[0].toNat : Int) = true
    · go_enter Try.func35, Try.ntmps35
      go_wp2_with (go_at_call 52; refine (rsmall_any _ _).mono ?_; rintro e w' ⟨rfl, rfl⟩)
      have Hb := Lib.hid hb; clear hb
      go_loop [3] (fun i => ∃ k : Nat, 1 ≤ k ∧ k ≤ s.size ∧ i = .int .i64 k ∧ ∀ i (h : i < s.size), i < k → nameC (i == 0) s[i].toNat = true) (fun i => s.size - (intOf i).toNat)
      case atStart =>
        refine ⟨1, by omega, by omega, rfl, fun i h h0 => ?_⟩
        obtain rfl : i = 0 := by omega
        have := Hb.out
        simp_all [nameC]
      case round =>
        obtain ⟨k, hk0, hk, rfl, hall⟩ := hrel
        have Hall := Lib.hid hall; clear hall
        by_cases hp : k < s.size
        · go_wp2_with (first
            | (go_at_call 52; refine (rsmall_any _ _).mono ?_; rintro e w' ⟨rfl, rfl⟩)
            | (go_at_call 53; refine (rdigit_any _ _).mono ?_; rintro e w' ⟨rfl, rfl⟩))
          all_goals
            have hk1 : (k == 0) = false := by simp; omega
            first
              | (have hbad : nameC (k == 0) s[k].toNat = false := by (rw [hk1]; simp_all [nameC]; done)
                 go_ret
                 exact ⟨retb (all_no s (fun i => nameC (i == 0)) _ k hp hbad).symm, Below.refl _ _⟩)
              | (have hgood : nameC (k == 0) s[k].toNat = true := by (rw [hk1]; simp_all [nameC]; done)
                 have hx := ext_ok (n := 1) (f := fun i => nameC (i == 0)) hp Hall.out ⟨hgood, rfl⟩
                 clear hgood hk1
                 go_round
                 case rel => exact ⟨k + 1, by omega, hx.1, by go_num, hx.2⟩
                 case measure => simp [intOf]; omega)
        · go_wp2
          go_ret
          refine ⟨retb (Eq.trans ?_ (all_yes s (fun i => nameC (i == 0)) _ (fun i h => Hall.out i h (by omega))).symm), Below.refl _ _⟩
          simp; omega
    · have hb' : smallI (s[0].toNat : Int) = false := by simpa using hb
      clear hb
      have hf := Lib.hid (all_no s (fun i => nameC (i == 0)) (decide (1 ≤ s.size) && decide (s.size ≤ 24)) 0 h1 (by simp [nameC, hb']))
      go_enter Try.func35, Try.ntmps35
      go_wp2_with (go_at_call 52; refine (rsmall_any _ _).mono ?_; rintro e w' ⟨rfl, rfl⟩)
      go_ret
      exact ⟨retb hf.out.symm, Below.refl _ _⟩
end Go.Proofs.Ytmlednjhemnncaa
namespace Go.Proofs.Ytmlednjhemnncaa
open Go.RowKit
structure Jb where
  id : ByteArray
  tn : ByteArray
  co : Int
structure Ac where
  tn : ByteArray
  js : List Jb
  df : Int
structure Qs where
  q : Int
  W : List (ByteArray × Int)
  R : List Ac
  tu : Bool
def sEq (a b : ByteArray) : Bool := a.toList == b.toList
theorem sEq_iff {a b : ByteArray} : sEq a b = true ↔ a = b := by
  unfold sEq
  rw [beq_iff_eq]
  constructor
  · intro h
    have := ByteArray.ext (Array.toList_inj.1 (by simpa [ByteArray.toList_eq] using h) : a.data = b.data)
    exact this
  · rintro rfl; rfl
def Qs.new (q : Int) : Qs := ⟨q, [], [], false⟩
def findA : List Ac → ByteArray → Option Ac
  | [], _ => none
  | a :: l, t => if a.tn = t then some a else findA l t
def jobsOf (s : Qs) (t : ByteArray) : List Jb := ((findA s.R t).map (·.js)).getD []
def dfOf (s : Qs) (t : ByteArray) : Int := ((findA s.R t).map (·.df)).getD 0
def lenR : List Ac → Int
  | [] => 0
  | a :: l => a.js.length + lenR l
def costs : List Jb → Int
  | [] => 0
  | j :: l => j.co + costs l
def hasJ : List Jb → ByteArray → Bool
  | [], _ => false
  | j :: l, i => sEq j.id i || hasJ l i
def hasR : List Ac → ByteArray → Bool
  | [], _ => false
  | a :: l, i => hasJ a.js i || hasR l i
def othersW : List (ByteArray × Int) → ByteArray → Int
  | [], _ => 0
  | x :: l, t => (if x.1 = t then 0 else 1) + othersW l t
def othersR (W : List (ByteArray × Int)) : List Ac → ByteArray → Int
  | [], _ => 0
  | a :: l, t => (if a.tn = t ∨ (getE W a.tn).isSome then 0 else 1) + othersR W l t
def fullB (s : Qs) (t : ByteArray) : Bool := decide (16 ≤ othersW s.W t + othersR s.W s.R t)
def weighE (s : Qs) (t : ByteArray) (n : Int) : Int := if nameB t = false then 4 else if n < 1 ∨ n > 1000 then 2 else if fullB s t then 3 else 0
def Qs.weigh (s : Qs) (t : ByteArray) (n : Int) : Qs := if weighE s t n = 0 then { s with W := putE s.W t n } else s
def pushE (s : Qs) (j : Jb) : Int := if idB j.id = false ∨ nameB j.tn = false then 4 else if j.co < 1 ∨ j.co > 1000 * s.q then 2 else if hasR s.R j.id then 6 else if lenR s.R ≥ 256 ∨ fullB s j.tn then 3 else 0
def pushR : List Ac → Jb → List Ac
  | [], j => [⟨j.tn, [j], 0⟩]
  | a :: l, j => if a.tn = j.tn then { a with js := a.js ++ [j] } :: l else a :: pushR l j
def Qs.push (s : Qs) (j : Jb) : Qs := if pushE s j = 0 then { s with R := pushR s.R j } else s
def dropR : List Ac → ByteArray → List Ac
  | [], _ => []
  | a :: l, t => if a.tn = t then l else a :: dropR l t
def headIs : List Ac → ByteArray → Bool
  | [], _ => false
  | a :: _, t => decide (a.tn = t)
def Qs.drop (s : Qs) (t : ByteArray) : Qs := if headIs s.R t then { s with R := dropR s.R t, tu := false } else { s with R := dropR s.R t }
def shareOf (s : Qs) (t : ByteArray) : Int := match getE s.W t with
  | some n => s.q * n
  | none => s.q
def Qs.turn (s : Qs) : Qs := match s.R with
  | [] => s
  | a :: l => if s.tu then s else { s with R := { a with df := a.df + shareOf s a.tn } :: l, tu := true }
def Qs.serve (s : Qs) : Option Jb × Qs := match s.R with
  | [] => (none, s)
  | a :: l => match a.js with
    | [] => (none, s)
    | j :: js => if j.co ≤ a.df then (some j, if js = [] then { s with R := l, tu := false } else { s with R := { a with js := js, df := a.df - j.co } :: l }) else (none, { s with R := l ++ [a], tu := false })
def popF : Nat → Qs → Option Jb × Qs
  | 0, s => (none, s)
  | n + 1, s => match s.R with
    | [] => (none, s)
    | _ :: _ => match s.turn.serve with
      | (some j, s') => (some j, s')
      | (none, s') => popF n s'
def lack : List Ac → Nat
  | [] => 0
  | a :: l => (match a.js with | [] => 0 | j :: _ => (j.co - a.df).toNat) + lack l
def Qs.mu (s : Qs) : Nat := 2 * lack s.R + (if s.tu then 1 else 0)
def Qs.pop (s : Qs) : Option Jb × Qs := popF (s.mu + 1) s
def Jb.zero : Jb := ⟨⟨#[]⟩, ⟨#[]⟩, 0⟩
structure Qs.ok (s : Qs) : Prop where
  q1 : 1 ≤ s.q
  q2 : s.q ≤ 1000000
  Wk : (s.W.map (·.1)).Nodup
  Rk : (s.R.map (·.tn)).Nodup
  Wn : ∀ x ∈ s.W, 1 ≤ x.2 ∧ x.2 ≤ 1000
  js : ∀ a ∈ s.R, a.js ≠ []
  own : ∀ a ∈ s.R, ∀ j ∈ a.js, j.tn = a.tn ∧ 1 ≤ j.co ∧ j.co ≤ 1000 * s.q
  df : ∀ a ∈ s.R, 0 ≤ a.df
  tu : s.tu = true → s.R ≠ []
end Go.Proofs.Ytmlednjhemnncaa
namespace Go.Proofs.Ytmlednjhemnncaa
open Go.RowKit
theorem known {c : Bool} (b : Bool) {K : Bool → Prop} (hc : c = b) (h : K b) : ∀ b', c = b' → K b' := fun b' e => by subst e; rw [hc]; exact h
theorem at_tr {P : Program} {o : Oper} {E : Operand → V} {m m' : List (Option Bk)} {v : V} {K : V → List (Option Bk) → Prop} (h : OpTr P o E m v m') (hK : v.k fun v => forceM m' fun m' => K v m') : ∃ v m', OpTr P o E m v m' ∧ v.k fun v => forceM m' fun m' => K v m' := ⟨v, m', h, hK⟩
theorem at_rd {P : Program} {o : Oper} {E : Operand → V} {m : List (Option Bk)} {v : V} {K : V → List (Option Bk) → Prop} (h : OpRd P o E m v) (hK : v.k fun v => K v m) : rdK P o E m K := ⟨v, h.rc, hK⟩
theorem at_ex {P : Program} {o : Oper} {E : Operand → V} {m m' : List (Option Bk)} {v : V} {K : V → List (Option Bk) → Prop} (h : OpTr P o E m v m') (hK : v.k fun v => forceM m' fun m' => K v m') : exK P o E m K := ⟨v, m', h, hK⟩
theorem getE_map {α β : Type} (f : α → β) : ∀ (l : List (ByteArray × α)) (t : ByteArray), getE (l.map fun e => (e.1, f e.2)) t = (getE l t).map f
  | [], _ => rfl
  | (k, c) :: l, t => by
    simp only [List.map_cons, getE]
    split
    · rfl
    · exact getE_map f l t
theorem putE_map {α β : Type} (f : α → β) : ∀ (l : List (ByteArray × α)) (t : ByteArray) (c : α), putE (l.map fun e => (e.1, f e.2)) t (f c) = (putE l t c).map fun e => (e.1, f e.2)
  | [], _, _ => rfl
  | (k, d) :: l, t, c => by
    simp only [List.map_cons, putE]
    split
    · rfl
    · simp only [List.map_cons, putE_map f l t c]
theorem delE_map {α β : Type} (f : α → β) : ∀ (l : List (ByteArray × α)) (t : ByteArray), delE (l.map fun e => (e.1, f e.2)) t = (delE l t).map fun e => (e.1, f e.2)
  | [], _ => rfl
  | (k, d) :: l, t => by
    simp only [List.map_cons, delE]
    split
    · rfl
    · simp only [List.map_cons, delE_map f l t]
theorem putE_same {α : Type} : ∀ {l : List (ByteArray × α)} {t : ByteArray} {c : α}, getE l t = some c → putE l t c = l
  | [], _, _, h => by simp [getE] at h
  | (k, d) :: l, t, c, h => by
    simp only [getE] at h
    simp only [putE]
    split
    · rename_i e; rw [if_pos e] at h; cases h; rw [e]
    · rename_i e; rw [if_neg e] at h; rw [putE_same h]
theorem putE_twice {α : Type} : ∀ (l : List (ByteArray × α)) (t : ByteArray) (c d : α), putE (putE l t c) t d = putE l t d
  | [], t, c, d => by simp [putE]
  | (k, x) :: l, t, c, d => by
    simp only [putE]
    split
    · rename_i e; simp [putE]
    · rename_i e; simp only [putE, if_neg e, putE_twice l t c d]
def jobD (j : Jb) : List D := [.cv (.string j.id), .cv (.string j.tn), .cv (.int .i64 j.co)]
abbrev Jb.V (j : Jb) : V := .ag [str j.id, str j.tn, int j.co]
def strD (s : ByteArray) : List D := [.cv (.string s)]
def intC (n : Int) : Cl := .d (.cv (.int .i64 n))
def jobsC (l : List Jb) : Cl := .r 34 3 (l.map jobD)
abbrev intM (l : List (ByteArray × Int)) : List (ByteArray × Cl) := l.map fun e => (e.1, intC e.2)
abbrev jobM (l : List (ByteArray × List Jb)) : List (ByteArray × Cl) := l.map fun e => (e.1, jobsC e.2)
abbrev qM (q : Int) (tu : Bool) (W : List (ByteArray × Int)) (J : List (ByteArray × List Jb)) (D : List (ByteArray × Int)) (R : List ByteArray) : List Bk :=
  [.box [int q, .ow 1 0, .ow 2 0, .ow 3 0, .ow 4 0, boo tu], .asr 0 (mapC (intM W)) [], .asr 0 (mapC (jobM J)) [], .asr 0 (mapC (intM D)) [], .row 0 9 1 false (R.map strD)]
theorem look_int {o : Oper} {E : Operand → V} {m : List (Option Bk)} {n k : Nat} {x i : Operand} {W : List (ByteArray × Int)} {t : ByteArray} {outs : List V} (ho : o.op = .lookup 47 x i false) (hx : E x = .ow n k) (hi : E i = str t) (hm : m[n]? = some (some (.asr k (mapC (intM W)) outs))) :
    OpRd Try.prog o E m (int ((getE W t).getD 0)) :=
  rd_look (z := .int .i64 0) ho Try.underlying47 Try.underlying9 (by kernel_rfl) hx hi hm (by rw [getE_map]; cases getE W t <;> rfl)
theorem look_int2 {o : Oper} {E : Operand → V} {m : List (Option Bk)} {n k : Nat} {x i : Operand} {W : List (ByteArray × Int)} {t : ByteArray} {outs : List V} (ho : o.op = .lookup 47 x i true) (hx : E x = .ow n k) (hi : E i = str t) (hm : m[n]? = some (some (.asr k (mapC (intM W)) outs))) :
    OpRd Try.prog o E m (.tu [int ((getE W t).getD 0), boo (getE W t).isSome]) :=
  rd_look (z := .int .i64 0) ho Try.underlying47 Try.underlying9 (by kernel_rfl) hx hi hm (by rw [getE_map]; cases getE W t <;> rfl)
theorem x_made (q : Int) (tu : Bool) (W : List (ByteArray × Int)) (J : List (ByteArray × List Jb)) (D : List (ByteArray × Int)) (R : List ByteArray) :
    MCallsG true Try.prog 28 [.bx 0 0] (qM q tu W J D R) (boo (decide (q > 0))) (qM q tu W J D R) := by
  refine msxx [] Try.func28 (by kernel_rfl) (by kernel_rfl) (by rfl) ?_
  conv => whnf
  refine known true rfl ?_
  exact ⟨⟨rfl, rfl, rfl⟩, rfl⟩
def jOf (J : List (ByteArray × List Jb)) (t : ByteArray) : List Jb := (getE J t).getD []
theorem jobs_noO (J : List (ByteArray × List Jb)) (i : Nat) : useO ((jobM J).map (·.2)) i = false :=
  useO_none fun c hc => by
    obtain ⟨e, he, rfl⟩ := List.mem_map.1 hc
    obtain ⟨e', _, rfl⟩ := List.mem_map.1 he
    rfl
theorem open_j {o : Oper} {E : Operand → V} {m : List (Option Bk)} {n k d : Nat} {x i : Operand} {J : List (ByteArray × List Jb)} {t : ByteArray} {js : List Jb} (ho : o.op = .lookup 48 x i false) (hx : E x = .ow n k) (hi : E i = str t) (hd : m[d]? = some none) (hm : m[n]? = some (some (.asr k (mapC (jobM J)) []))) (hg : getE J t = some js) :
    OpTr Try.prog o E m (.ow d 0) ((m.set n (some (.asr k (mapC (putE (jobM J) t (.o 0))) [.ow d 0]))).set d (some (.row 0 34 3 false (js.map jobD)))) :=
  ot_look1 (d := d) (es := jobM J) (outs := []) (z := .slice none 0 0) ho hd Try.underlying48 Try.underlying9 (by kernel_rfl) hx hi hm (by rw [getE_map, hg]; rfl)
theorem open_j0 {o : Oper} {E : Operand → V} {m : List (Option Bk)} {n k d : Nat} {x i : Operand} {J : List (ByteArray × List Jb)} {t : ByteArray} (ho : o.op = .lookup 48 x i false) (hx : E x = .ow n k) (hi : E i = str t) (hd : m[d]? = some none) (hm : m[n]? = some (some (.asr k (mapC (jobM J)) []))) (hg : getE J t = none) :
    OpTr Try.prog o E m (.ow d 0) (m.set d (some (.row 0 34 3 true []))) :=
  ot_look0 (d := d) (E' := 34) (sz' := 3) (es := jobM J) (outs := []) ho hd (by decide) Try.underlying48 Try.underlying9 (by kernel_rfl) hx hi hm (by rw [getE_map, hg]; rfl)
theorem again_j {o : Oper} {E : Operand → V} {m : List (Option Bk)} {n k d kd : Nat} {x i : Operand} {J : List (ByteArray × List Jb)} {t : ByteArray} {js : List Jb} (hg : getE J t = some js) (ho : o.op = .lookup 48 x i false) (hx : E x = .ow n k) (hi : E i = str t) (hm : m[n]? = some (some (.asr k (mapC (putE (jobM J) t (.o 0))) [.ow d kd]))) :
    OpRd Try.prog o E m (.ow d kd) :=
  rd_look (z := .slice none 0 0) ho Try.underlying48 Try.underlying9 (by kernel_rfl) hx hi hm (by
    obtain ⟨l1, l2, rfl, h2⟩ := getE_some hg
    have : jobM (l1 ++ (t, js) :: l2) = jobM l1 ++ (t, jobsC js) :: jobM l2 := by simp [jobM]
    have h3 : t ∉ (jobM l1).map (·.1) := by simpa [jobM] using h2
    rw [this, putE_old h3, getE_setE h3]
    rfl)
theorem close_j {m : List (Option Bk)} {n k d kd : Nat} {f : Bool} {J : List (ByteArray × List Jb)} {t : ByteArray} {js : List Jb} (hg : getE J t = some js) (hm : m[n]? = some (some (.asr k (mapC (putE (jobM J) t (.o 0))) [.ow d kd]))) (hd : m[d]? = some (some (.row kd 34 3 f (js.map jobD)))) :
    GhM m ((m.set n (some (.asr k (mapC (jobM J)) []))).set d (some (.row (kd + 1) 34 3 true []))) := by
  have hg' : getE (jobM J) t = some (jobsC js) := by rw [getE_map, hg]; rfl
  have := gh_closeE (es := jobM J) (outs := []) hg' (jobs_noO J 0) hm hd
  rwa [show putE (jobM J) t (.r 34 3 (js.map jobD)) = jobM J from putE_same hg'] at this
theorem x_known (q : Int) (tu : Bool) (W : List (ByteArray × Int)) (J : List (ByteArray × List Jb)) (D : List (ByteArray × Int)) (R : List ByteArray) (t : ByteArray) :
    MCallsG true Try.prog 50 [.bx 0 0, str t] (qM q tu W J D R) (boo ((getE W t).isSome || decide (0 < (jOf J t).length))) (qM q tu W J D R) := by
  refine msxxg [] Try.func50 (by kernel_rfl) (by kernel_rfl) (by rfl) ?_
  conv => whnf
  refine at_tr (ot_rd (look_int2 rfl rfl rfl rfl)) ?_
  conv => whnf
  rintro (_ | _) h1
  rotate_left
  · conv => whnf
    refine ⟨_, Gh.refl _, ?_⟩
    exact ⟨⟨rfl, rfl, by rw [h1]; rfl⟩, rfl⟩
  rw [h1]
  cases hg : getE J t with
  | none =>
    conv => whnf
    refine at_tr (open_j0 (n := 29) (d := 23) rfl rfl rfl rfl rfl hg) ?_
    conv => whnf
    refine ⟨_, Gh.refl _, ?_⟩
    exact ⟨⟨rfl, rfl, fin_boo (by simp [jOf, hg])⟩, rfl⟩
  | some js =>
    conv => whnf
    refine at_tr (open_j (n := 29) (d := 23) rfl rfl rfl rfl rfl hg) ?_
    conv => whnf
    refine ⟨_, GhM.gh (close_j (n := 29) (d := 23) hg rfl rfl), ?_⟩
    exact ⟨⟨rfl, rfl, fin_boo (by simp [jOf, hg])⟩, rfl⟩
end Go.Proofs.Ytmlednjhemnncaa
namespace Go.Proofs.Ytmlednjhemnncaa
open Go.RowKit
theorem get_str {l : List ByteArray} {k : Nat} (h : k < l.length) : (l.map strD)[(k : Int).toNat]? = some (strD l[k]) := get_map strD h
theorem len_int {o : Oper} {E : Operand → V} {m : List (Option Bk)} {n k : Nat} {x : Operand} {W : List (ByteArray × Int)} {outs : List V} (ho : o.op = .call { callee := .builtin .len, args := #[x], argTypes := #[47] }) (hx : E x = .ow n k) (hm : m[n]? = some (some (.asr k (mapC (intM W)) outs))) :
    OpRd Try.prog o E m (int ((W.length : Nat) : Int)) := by
  have := rd_map_len (P := Try.prog) (m := m) ho Try.underlying47 hx hm
  rwa [List.length_map] at this
def wtOf (W : List (ByteArray × Int)) (t : ByteArray) : Int := match getE W t with
  | some n => n
  | none => 1
theorem x_weight (q : Int) (tu : Bool) (W : List (ByteArray × Int)) (J : List (ByteArray × List Jb)) (D : List (ByteArray × Int)) (R : List ByteArray) (t : ByteArray) :
    MCallsG true Try.prog 42 [.bx 0 0, str t] (qM q tu W J D R) (int (wtOf W t)) (qM q tu W J D R) := by
  refine msxx [] Try.func42 (by kernel_rfl) (by kernel_rfl) (by rfl) ?_
  conv => whnf
  refine at_tr (ot_rd (look_int2 rfl rfl rfl rfl)) ?_
  conv => whnf
  rintro (_ | _) h1
  · exact ⟨⟨rfl, rfl, fin_int (by unfold wtOf; cases h : getE W t <;> simp_all)⟩, rfl⟩
  · exact ⟨⟨rfl, rfl, fin_int (by unfold wtOf; cases h : getE W t <;> simp_all)⟩, rfl⟩
theorem x_deficit (q : Int) (hq : 0 < q) (tu : Bool) (W : List (ByteArray × Int)) (J : List (ByteArray × List Jb)) (D : List (ByteArray × Int)) (R : List ByteArray) (t : ByteArray) :
    MCallsG true Try.prog 23 [.bx 0 0, str t] (qM q tu W J D R) (int ((getE D t).getD 0)) (qM q tu W J D R) := by
  refine msxx [(28, false)] Try.func23 (by kernel_rfl) (by kernel_rfl) (by rfl) ?_
  conv => whnf
  refine mcall (T := TT) (φ := []) (x_made q tu W J D R) ?_
  conv => whnf
  refine known false (by simp [hq]) ?_
  conv => whnf
  refine at_tr (ot_rd (look_int rfl rfl rfl rfl)) ?_
  exact ⟨⟨rfl, rfl, rfl⟩, rfl⟩
def notIn (W : List (ByteArray × Int)) : List ByteArray → Int
  | [] => 0
  | t :: l => (if (getE W t).isSome then 0 else 1) + notIn W l
theorem notIn_app (W : List (ByteArray × Int)) : ∀ l l', notIn W (l ++ l') = notIn W l + notIn W l'
  | [], l' => by simp [notIn]
  | t :: l, l' => by simp only [List.cons_append, notIn, notIn_app W l l']; omega
theorem notIn_take (W : List (ByteArray × Int)) {R : List ByteArray} {k : Nat} (h : k < R.length) : notIn W (R.take (k + 1)) = notIn W (R.take k) + (if (getE W R[k]).isSome then 0 else 1) := by
  rw [List.take_succ_eq_append_getElem h, notIn_app]; simp [notIn]
theorem notIn_le (W : List (ByteArray × Int)) : ∀ l : List ByteArray, 0 ≤ notIn W l ∧ notIn W l ≤ l.length
  | [] => by simp [notIn]
  | t :: l => by
    have := notIn_le W l
    simp only [notIn, List.length_cons]
    split <;> omega
def crowdB (W : List (ByteArray × Int)) (J : List (ByteArray × List Jb)) (R : List ByteArray) (t : ByteArray) : Bool :=
  decide ((W.length : Int) + notIn W R - (if (getE W t).isSome || decide (0 < (jOf J t).length) then 1 else 0) ≥ 16)
set_option maxRecDepth 100000 in
set_option maxHeartbeats 4000000 in
theorem x_crowded (q : Int) (tu : Bool) (W : List (ByteArray × Int)) (J : List (ByteArray × List Jb)) (D : List (ByteArray × Int)) (R : List ByteArray) (t : ByteArray) (hW : W.length ≤ 1099511627776) (hR : R.length ≤ 1099511627776) :
    MCallsG true Try.prog 32 [.bx 0 0, str t] (qM q tu W J D R) (boo (crowdB W J R t)) (qM q tu W J D R) := by
  refine msxx [(50, false)] Try.func32 (by kernel_rfl) (by kernel_rfl) (by rfl) ?_
  conv => whnf
  refine at_rd (len_int rfl rfl rfl) ?_
  conv => whnf
  refine ⟨[], Nat, fun k => [(20, int k), (5, int ((W.length : Int) + notIn W (R.take k)))], fun _ => [], fun k => k ≤ R.length, fun k => R.length - k, 0, by simp, ?_, ?_⟩
  · refine ⟨rfl, ?_, ?_⟩ <;> repeat' (first | exact trivial | exact rfl | refine and_rfl ?_ | refine and_val (by simp [notIn]) ?_ | refine and_two ?_ ?_)
  rintro k hk
  have hk : k ≤ R.length := hk
  have hn := notIn_le W (R.take k)
  rw [List.length_take] at hn
  conv => whnf
  rintro (_ | _) h1
  · simp at h1
    have e : k = R.length := by omega
    subst e
    rw [List.take_length] at hn ⊢
    conv => whnf
    refine mcall (T := TT) (φ := []) (x_known q tu W J D R t) ?_
    conv => whnf
    rintro (_ | _) h2
    · exact ⟨⟨rfl, rfl, fin_boo (by simp [crowdB, h2])⟩, rfl⟩
    · refine ⟨⟨rfl, rfl, ?_⟩, rfl⟩
      exact fin_boo (by rw [wrap_in (by omega)]; simp [crowdB, h2])
  simp at h1
  have ht := notIn_take W h1
  conv => whnf
  refine ⟨by omega, by simp; omega, ?_⟩
  conv => whnf
  refine ⟨_, get_str h1, ?_⟩
  conv => whnf
  refine at_tr (ot_rd (look_int2 rfl rfl rfl rfl)) ?_
  conv => whnf
  rintro (_ | _) h2
  · have h2 : (getE W R[k]).isSome = true := by simpa using h2
    rw [if_pos h2] at ht
    conv => whnf
    refine ⟨k + 1, h1, by dsimp only; omega, ?_⟩
    refine ⟨rfl, ?_, ?_⟩ <;> repeat' (first | exact trivial | exact rfl | refine and_rfl ?_ | refine and_val (wrap_succ (by omega)) ?_ | refine and_val (by rw [ht]; omega) ?_ | refine and_two ?_ ?_)
  · have h2 : (getE W R[k]).isSome = false := by simpa using h2
    rw [h2, if_neg (by simp)] at ht
    conv => whnf
    refine ⟨k + 1, h1, by dsimp only; omega, ?_⟩
    refine ⟨rfl, ?_, ?_⟩ <;> repeat' (first | exact trivial | exact rfl | refine and_rfl ?_ | refine and_val (wrap_succ (by omega)) ?_ | refine and_val (by rw [wrap_in (by omega), ht]; omega) ?_ | refine and_two ?_ ?_)
theorem x_has1 (j : Jb) (x : ByteArray) : MCalls Try.prog 49 [j.V, .bx 0 0] [.box [str x]] (boo (sEq j.id x)) [.box [str x]] := by
  refine msxm [] Try.func49 (by kernel_rfl) (by kernel_rfl) ?_
  exact ⟨rfl, rfl, rfl⟩
def idxFrom (x : ByteArray) : List Jb → Nat → Int
  | [], _ => -1
  | s :: l, i => if sEq s.id x then i else idxFrom x l (i + 1)
theorem idx_has (x : ByteArray) : ∀ (l : List Jb) (i : Nat), idxFrom x l i ≥ 0 ↔ hasJ l x = true
  | [], i => by simp [idxFrom, hasJ]
  | s :: l, i => by
    have ih := idx_has x l (i + 1)
    unfold idxFrom hasJ
    by_cases h : sEq s.id x = true
    · rw [if_pos h, h]; simp
    · rw [if_neg h, ih, show sEq s.id x = false by simpa using h]; rfl
abbrev jRow (l : List Jb) : Bk := .row 0 34 3 false (l.map jobD)
set_option maxRecDepth 100000 in
set_option maxHeartbeats 4000000 in
theorem x_indexj (l : List Jb) (x : ByteArray) (hl : l.length ≤ 8796093022207) :
    MCallsG true Try.prog 57 [.ow 0 0, .fn 49 0 [.bx 1 0]] [jRow l, .box [str x]] (int (idxFrom x l 0)) [jRow l, .box [str x]] := by
  refine msxx [(49, false)] Try.func57 (by kernel_rfl) (by kernel_rfl) (by rfl) ?_
  conv => whnf
  refine ⟨[], Nat, fun k => [(8, int k)], fun _ => [], fun k => k ≤ l.length ∧ idxFrom x (l.drop k) k = idxFrom x l 0, fun k => l.length - k, 0, ⟨by simp, rfl⟩, ?_, ?_⟩
  · refine ⟨rfl, ?_, ?_⟩ <;> repeat' (first | exact trivial | exact rfl | refine and_rfl ?_ | refine and_two ?_ ?_)
  rintro k ⟨hk, hf⟩
  conv => whnf
  rintro (_ | _) h1
  · simp at h1
    have e : k = l.length := by omega
    subst e
    simp [idxFrom] at hf
    exact ⟨⟨rfl, rfl, by rw [← hf]; rfl⟩, rfl⟩
  simp at h1
  have hd : l.drop k = l[k] :: l.drop (k + 1) := List.drop_eq_getElem_cons h1
  rw [hd] at hf
  simp only [idxFrom] at hf
  conv => whnf
  refine ⟨by omega, by simp; omega, ?_⟩
  conv => whnf
  refine ⟨_, get_map jobD h1, ?_⟩
  conv => whnf
  refine mcall (T := TT) (φ := []) (x_has1 l[k] x) ?_
  conv => whnf
  rintro (_ | _) h2
  · rw [h2, if_neg (by simp)] at hf
    conv => whnf
    refine ⟨k + 1, ⟨h1, hf⟩, by dsimp only; omega, ?_⟩
    refine ⟨rfl, ?_, ?_⟩ <;> repeat' (first | exact trivial | exact rfl | refine and_rfl ?_ | refine and_val (wrap_succ (by omega)) ?_ | refine and_two ?_ ?_)
  · rw [h2, if_pos rfl] at hf
    exact ⟨⟨rfl, rfl, by rw [← hf]; rfl⟩, rfl⟩
theorem x_containsj (l : List Jb) (x : ByteArray) (hl : l.length ≤ 8796093022207) :
    MCallsG true Try.prog 48 [.ow 0 0, .fn 49 0 [.bx 1 0]] [jRow l, .box [str x]] (boo (hasJ l x)) [jRow l, .box [str x]] := by
  refine msxx [(57, false)] Try.func48 (by kernel_rfl) (by kernel_rfl) (by rfl) ?_
  conv => whnf
  refine mcall (T := TT) (φ := []) (x_indexj l x hl) ?_ (ln := true)
  exact ⟨⟨rfl, rfl, fin_boo (by rw [Bool.eq_iff_iff, decide_eq_true_iff]; exact idx_has x l 0)⟩, rfl⟩
end Go.Proofs.Ytmlednjhemnncaa
