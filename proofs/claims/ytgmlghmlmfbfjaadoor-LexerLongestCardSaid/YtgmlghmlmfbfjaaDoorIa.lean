/- in, span, first -/
import Derived.Test.YtgmlghmlmfbfjaaDoorTb
import Derived.Test.YtgmlghmlmfbfjaaDoorShelf
import Derived.Lib.Bytealg
namespace Go.Proofs.YtgmlghmlmfbfjaaDoor
open Go.RowKit

theorem indexByte_cons (b : UInt8) (l : List UInt8) (c : UInt8) : Lib.indexByte (b :: l) c = if (b == c) = true then 0 else if (Lib.indexByte l c == -1) = true then -1 else Lib.indexByte l c + 1 := by
  simp only [Lib.indexByte]
theorem indexByte_ge : ∀ (l : List UInt8) (c : UInt8), -1 ≤ Lib.indexByte l c
  | [], _ => Int.le_refl _
  | b :: l, c => by
    have := indexByte_ge l c
    rw [indexByte_cons]
    split
    · omega
    · split
      · omega
      · omega
theorem indexByte_has : ∀ (l : List UInt8) (c : UInt8), 0 ≤ Lib.indexByte l c ↔ l.contains c = true
  | [], _ => ⟨fun h => absurd h (by simp [Lib.indexByte]), fun h => by simp at h⟩
  | b :: l, c => by
    have ih := indexByte_has l c
    have hg := indexByte_ge l c
    rw [indexByte_cons, List.contains_cons]
    by_cases h : (b == c) = true
    · rw [if_pos h]
      have : (c == b) = true := by rw [beq_iff_eq] at h ⊢; exact h.symm
      rw [this]; simp
    · have h' : (c == b) = false := by
        rw [beq_eq_false_iff_ne]; intro e; subst e; simp at h
      rw [if_neg h, h', Bool.false_or, ← ih]
      by_cases hm : Lib.indexByte l c = -1
      · rw [if_pos (by rw [hm]; rfl), hm]
      · rw [if_neg (by simpa using hm)]
        omega
def hasB (t : ByteArray) (c : UInt8) : Bool := t.data.toList.contains c
theorem index_any (t : ByteArray) (c : UInt8) (w : World) :
    Calls Tryd.prog 43 #[.string t, .int .u8 (c.toNat : Int)] w fun e w' => ∃ i : Int, e = .returned (.int .i64 i) ∧ (0 ≤ i ↔ hasB t c = true) ∧ w = w' :=
  (Tryd.strings_IndexByte t (c.toNat : Int) w).mono fun e w' h => ⟨_, h.1, by rw [indexByte_has]; unfold hasB; simp, h.2.symm⟩
theorem index_yes (t : ByteArray) (c : UInt8) (h : hasB t c = true) (w : World) :
    Calls Tryd.prog 43 #[.string t, .int .u8 (c.toNat : Int)] w fun e w' => ∃ i : Int, e = .returned (.int .i64 i) ∧ 0 ≤ i ∧ w = w' :=
  (index_any t c w).mono fun _ _ ⟨i, h1, h2, h3⟩ => ⟨i, h1, h2.2 h, h3⟩
theorem index_no (t : ByteArray) (c : UInt8) (h : hasB t c = false) (w : World) :
    Calls Tryd.prog 43 #[.string t, .int .u8 (c.toNat : Int)] w fun e w' => ∃ i : Int, e = .returned (.int .i64 i) ∧ i < 0 ∧ w = w' :=
  (index_any t c w).mono fun _ _ ⟨i, h1, h2, h3⟩ => ⟨i, h1, by have := mt h2.1 (by rw [h]; decide); omega, h3⟩

theorem ret_b {a b : Bool} {w : World} (h : a = b) : Ending.returned (.bool a) = .returned (.bool b) ∧ w = w := ⟨by rw [h], rfl⟩
theorem not_empty (s : ByteArray) (h0 : 0 < s.size) : s.toList.isEmpty = false := by
  rw [ByteArray.toList_eq, ← List.drop_zero (l := s.data.toList), drop_cons s 0 h0]; rfl
set_option maxRecDepth 100000 in
theorem in_any (s t : ByteArray) (h0 : 0 < s.size) (b : Bool) (hb : hasB t s[0] = b) (w : World) :
    Calls Tryd.prog 33 #[.string s, .string t] w fun e w' => e = .returned (.bool b) ∧ w = w' := by
  have hne := not_empty s h0
  have hne' : (!s.toList.isEmpty) = true := by rw [hne]; rfl
  have HB := Lib.hid hb
  cases b with
  | true =>
    clear hb
    go_enter Tryd.func33, Tryd.ntmps33
    go_wp2_with (go_at_call 43; refine (index_yes _ _ HB.out _).mono ?_; rintro e w' ⟨i, rfl, hi, rfl⟩)
    go_ret
    exact ⟨rfl, rfl⟩
  | false =>
    clear hb
    go_enter Tryd.func33, Tryd.ntmps33
    go_wp2_with (go_at_call 43; refine (index_no _ _ HB.out _).mono ?_; rintro e w' ⟨i, rfl, hi, rfl⟩)
    go_ret
    exact ret_b (decide_eq_false (by omega))

set_option maxRecDepth 100000 in
set_option maxHeartbeats 1000000 in
theorem span_any (s t : ByteArray) (n : Nat) (hs : s.size ≤ maxLen) (hn : Lx.tw (hasB t) s.data.toList = n) (w : World) :
    Calls Tryd.prog 34 #[.string s, .string t] w fun e w' => e = .returned (.int .i64 (n : Int)) ∧ w = w' := by
  unfold maxLen at hs
  have HN := Lib.hid hn
  clear hn
  go_enter Tryd.func34, Tryd.ntmps34
  go_wp2
  go_loop [5] (fun t' => ∃ (k : Nat), k ≤ s.size ∧ t' = .int .i64 k ∧ Hid (k + Lx.tw (hasB t) (s.data.toList.drop k) = n)) (fun t' => s.size - (intOf t').toNat)
  case atStart => exact ⟨0, by omega, rfl, Lib.hid (by rw [List.drop_zero, Nat.zero_add]; exact HN.out)⟩
  case round =>
    obtain ⟨k, hk, rfl, HE⟩ := hrel
    by_cases hlt : k < s.size
    · cases hb : hasB t s[k] with
      | true =>
        have HB := Lib.hid hb
        clear hb
        go_wp2_with (go_at_call 43; refine (index_yes _ _ HB.out _).mono ?_; rintro e w' ⟨i, rfl, hi, rfl⟩)
        go_round
        case rel =>
          refine ⟨k + 1, by omega, by go_num, Lib.hid ?_⟩
          have HE1 := HE.out
          rw [drop_cons s k hlt, Lx.tw_go HB.out] at HE1
          omega
        case measure => simp [intOf]; omega
      | false =>
        have HB := Lib.hid hb
        clear hb
        go_wp2_with (go_at_call 43; refine (index_no _ _ HB.out _).mono ?_; rintro e w' ⟨i, rfl, hi, rfl⟩)
        go_ret
        have HE1 := HE.out
        rw [drop_cons s k hlt, Lx.tw_stop HB.out] at HE1
        refine ret_i ?_; omega
    · go_wp2
      go_ret
      have HE1 := HE.out
      rw [drop_end s k (by omega)] at HE1
      simp only [Lx.tw] at HE1
      refine ret_i ?_; omega

/-! ### The sets -/
def sSmall : ByteArray := ⟨#[97, 98, 99, 100, 101, 102, 103, 104, 105, 106, 107, 108, 109, 110, 111, 112, 113, 114, 115, 116, 117, 118, 119, 120, 121, 122]⟩
def sCap : ByteArray := ⟨#[65, 66, 67, 68, 69, 70, 71, 72, 73, 74, 75, 76, 77, 78, 79, 80, 81, 82, 83, 84, 85, 86, 87, 88, 89, 90]⟩
def sDig : ByteArray := ⟨#[48, 49, 50, 51, 52, 53, 54, 55, 56, 57]⟩
def sBl : ByteArray := ⟨#[32, 9, 10]⟩
def sWord : ByteArray := ⟨#[97, 98, 99, 100, 101, 102, 103, 104, 105, 106, 107, 108, 109, 110, 111, 112, 113, 114, 115, 116, 117, 118, 119, 120, 121, 122, 48, 49, 50, 51, 52, 53, 54, 55, 56, 57, 95]⟩
def sCapW : ByteArray := ⟨#[65, 66, 67, 68, 69, 70, 71, 72, 73, 74, 75, 76, 77, 78, 79, 80, 81, 82, 83, 84, 85, 86, 87, 88, 89, 90, 97, 98, 99, 100, 101, 102, 103, 104, 105, 106, 107, 108, 109, 110, 111, 112, 113, 114, 115, 116, 117, 118, 119, 120, 121, 122, 48, 49, 50, 51, 52, 53, 54, 55, 56, 57, 95]⟩
theorem all_bytes {p : UInt8 → Bool} (h : (List.range 256).all (fun n => p n.toUInt8) = true) (c : UInt8) : p c = true := by
  rw [List.all_eq_true] at h
  have := h c.toNat (List.mem_range.2 c.toNat_lt)
  simpa using this
theorem small_cls (c : UInt8) : hasB sSmall c = (Lx.cls c == 1) := by
  have := all_bytes (p := fun c => hasB sSmall c == (Lx.cls c == 1)) (by decide +kernel) c
  exact eq_of_beq this
theorem cap_cls (c : UInt8) : hasB sCap c = (Lx.cls c == 2) := eq_of_beq (all_bytes (p := fun c => hasB sCap c == (Lx.cls c == 2)) (by decide +kernel) c)
theorem dig_cls (c : UInt8) : hasB sDig c = (Lx.cls c == 3) := eq_of_beq (all_bytes (p := fun c => hasB sDig c == (Lx.cls c == 3)) (by decide +kernel) c)
theorem bl_cls (c : UInt8) : hasB sBl c = (Lx.cls c == 0) := eq_of_beq (all_bytes (p := fun c => hasB sBl c == (Lx.cls c == 0)) (by decide +kernel) c)
theorem word_cls (c : UInt8) : hasB sWord c = Lx.p1 c := eq_of_beq (all_bytes (p := fun c => hasB sWord c == Lx.p1 c) (by decide +kernel) c)
theorem capW_cls (c : UInt8) : hasB sCapW c = Lx.p2 c := eq_of_beq (all_bytes (p := fun c => hasB sCapW c == Lx.p2 c) (by decide +kernel) c)
theorem tw_congr {p q : UInt8 → Bool} (h : ∀ c, p c = q c) (l : List UInt8) : Lx.tw p l = Lx.tw q l := by rw [show p = q from funext h]


end Go.Proofs.YtgmlghmlmfbfjaaDoor
