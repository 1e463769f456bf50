/- lexer.first -/
import Derived.Test.YtgmlghmlmfbfjaaDoorIa
import Derived.WideShapes
namespace Go.Proofs.YtgmlghmlmfbfjaaDoor
open Go.RowKit
/-! ### lexer.first -/
def tokAgg (k a v : Nat) (x : ByteArray) : Value := .agg #[.int .i64 (k : Int), .int .i64 (a : Int), .int .i64 (v : Int), .string x]
theorem take_extract (s : ByteArray) (n : Nat) : (⟨(s.data.toList.take n).toArray⟩ : ByteArray) = s.extract 0 n := by
  have h : (s.extract 0 n).data.toList = s.data.toList.take n := by rw [Lib.extract_data, List.drop_zero, Nat.sub_zero]
  rw [← h]

set_option maxRecDepth 100000 in
set_option maxHeartbeats 4000000 in
theorem first_word (s : ByteArray) (h0 : 0 < s.size) (hs : s.size ≤ maxLen) (hc : Lx.cls s[0] = 1) (A : Option Addr) (m c : Nat) (w : World) :
    Calls Tryd.prog 36 #[.string s, .slice A m c] w fun e w' => e = .returned (tokAgg 0 0 0 (s.extract 0 (Lx.tokLen s.data.toList))) ∧ Below w.heap.size w w' := by
  have hsm := in_any s sSmall h0 true (by rw [small_cls, hc]; rfl)
  obtain ⟨n, hn⟩ : ∃ n, Lx.tokLen s.data.toList = n := ⟨_, rfl⟩
  have hl := Lx.tokLen_le s.data.toList
  rw [hn] at hl ⊢
  have hle : n ≤ s.size := by simpa using hl
  have hdc := drop_cons s 0 h0
  rw [List.drop_zero] at hdc
  have hsp : Lx.tw (hasB sWord) s.data.toList = n := by
    rw [tw_congr word_cls, ← hn, hdc]
    simp only [Lx.tokLen]
    rw [if_pos hc, Lx.tw_go (by unfold Lx.p1; rw [hc]; rfl)]
  have hspan := span_any s sWord n hs hsp
  have H1 := Lib.hid hsm
  have H2 := Lib.hid hspan
  have f2 : (n : Int) ≤ (s.size : Int) := by omega
  clear hsm hspan hsp hdc hl hn
  go_enter Tryd.func36, Tryd.ntmps36
  go_wp2_with (first | (go_at_call 33; refine (H1.out _).mono ?_; rintro e w' ⟨rfl, rfl⟩) | (go_at_call 34; refine (H2.out _).mono ?_; rintro e w' ⟨rfl, rfl⟩))
  exact bodyPost_ret (v := tokAgg 0 0 0 (s.extract 0 n)) (by simp [results, Tryd.results36, go_sem, tokAgg]) rfl ⟨rfl, (Below.refl _ _).alloc (Nat.le_refl _) _⟩

set_option maxRecDepth 100000 in
set_option maxHeartbeats 4000000 in
theorem first_cap (s : ByteArray) (h0 : 0 < s.size) (hs : s.size ≤ maxLen) (hc : Lx.cls s[0] = 2) (A : Option Addr) (m c : Nat) (w : World) :
    Calls Tryd.prog 36 #[.string s, .slice A m c] w fun e w' => e = .returned (tokAgg 1 0 0 (s.extract 0 (Lx.tokLen s.data.toList))) ∧ Below w.heap.size w w' := by
  have ha := in_any s sSmall h0 false (by rw [small_cls, hc]; rfl)
  have hb := in_any s sCap h0 true (by rw [cap_cls, hc]; rfl)
  obtain ⟨n, hn⟩ : ∃ n, Lx.tokLen s.data.toList = n := ⟨_, rfl⟩
  have hl := Lx.tokLen_le s.data.toList
  rw [hn] at hl ⊢
  have hle : n ≤ s.size := by simpa using hl
  have hdc := drop_cons s 0 h0
  rw [List.drop_zero] at hdc
  have hsp : Lx.tw (hasB sCapW) s.data.toList = n := by
    rw [tw_congr capW_cls, ← hn, hdc]
    simp only [Lx.tokLen]
    rw [if_neg (by rw [hc]; decide), if_pos hc, Lx.tw_go (by unfold Lx.p2; rw [hc]; rfl)]
  have hspan := span_any s sCapW n hs hsp
  have Ha := Lib.hid ha
  have Hb := Lib.hid hb
  have H2 := Lib.hid hspan
  have f2 : (n : Int) ≤ (s.size : Int) := by omega
  clear ha hb hspan hsp hdc hl hn
  go_enter Tryd.func36, Tryd.ntmps36
  go_wp2_with fail
  refine (Ha.out _).mono ?_
  rintro e w' ⟨rfl, rfl⟩
  go_wp2_with fail
  refine (Hb.out _).mono ?_
  rintro e w' ⟨rfl, rfl⟩
  go_wp2_with fail
  refine (H2.out _).mono ?_
  rintro e w' ⟨rfl, rfl⟩
  go_wp2_with fail
  exact bodyPost_ret (v := tokAgg 1 0 0 (s.extract 0 n)) (by simp [results, Tryd.results36, go_sem, tokAgg]) rfl ⟨rfl, (Below.refl _ _).alloc (Nat.le_refl _) _⟩

set_option maxRecDepth 100000 in
set_option maxHeartbeats 4000000 in
theorem first_num (s : ByteArray) (h0 : 0 < s.size) (hs : s.size ≤ maxLen) (hc : Lx.cls s[0] = 3) (A : Option Addr) (m c : Nat) (w : World) :
    Calls Tryd.prog 36 #[.string s, .slice A m c] w fun e w' => e = .returned (tokAgg 2 0 0 (s.extract 0 (Lx.tokLen s.data.toList))) ∧ Below w.heap.size w w' := by
  have ha := in_any s sSmall h0 false (by rw [small_cls, hc]; rfl)
  have hb := in_any s sCap h0 false (by rw [cap_cls, hc]; rfl)
  have hd := in_any s sDig h0 true (by rw [dig_cls, hc]; rfl)
  obtain ⟨n, hn⟩ : ∃ n, Lx.tokLen s.data.toList = n := ⟨_, rfl⟩
  have hl := Lx.tokLen_le s.data.toList
  rw [hn] at hl ⊢
  have hle : n ≤ s.size := by simpa using hl
  have hdc := drop_cons s 0 h0
  rw [List.drop_zero] at hdc
  have hsp : Lx.tw (hasB sDig) s.data.toList = n := by
    rw [tw_congr (q := Lx.p3) (fun c => by rw [dig_cls]; rfl), ← hn, hdc]
    simp only [Lx.tokLen]
    rw [if_neg (by rw [hc]; decide), if_neg (by rw [hc]; decide), if_pos hc, Lx.tw_go (by unfold Lx.p3; rw [hc]; rfl)]
  have hspan := span_any s sDig n hs hsp
  have Ha := Lib.hid ha
  have Hb := Lib.hid hb
  have Hd := Lib.hid hd
  have H2 := Lib.hid hspan
  have f2 : (n : Int) ≤ (s.size : Int) := by omega
  clear ha hb hd hspan hsp hdc hl hn
  go_enter Tryd.func36, Tryd.ntmps36
  go_wp2_with fail
  refine (Ha.out _).mono ?_
  rintro e w' ⟨rfl, rfl⟩
  go_wp2_with fail
  refine (Hb.out _).mono ?_
  rintro e w' ⟨rfl, rfl⟩
  go_wp2_with fail
  refine (Hd.out _).mono ?_
  rintro e w' ⟨rfl, rfl⟩
  go_wp2_with fail
  refine (H2.out _).mono ?_
  rintro e w' ⟨rfl, rfl⟩
  go_wp2_with fail
  exact bodyPost_ret (v := tokAgg 2 0 0 (s.extract 0 n)) (by simp [results, Tryd.results36, go_sem, tokAgg]) rfl ⟨rfl, (Below.refl _ _).alloc (Nat.le_refl _) _⟩

def FirstPost (s : ByteArray) (k n : Nat) (w : World) (e : Ending) (w' : World) : Prop := e = .returned (tokAgg k 0 0 (s.extract 0 n)) ∧ Below w.heap.size w w'
theorem sy_pos (i : Nat) (h : i < 22) : 1 ≤ (sy i).size := by
  have h1 : ∀ l ∈ Lx.syms, 1 ≤ l.length := by decide
  have hl : i < Lx.syms.length := h
  show 1 ≤ (Lx.syms.getD i []).length
  rw [List.getD_eq_getElem?_getD, List.getElem?_eq_getElem hl]
  exact h1 _ (List.getElem_mem hl)
theorem prefix_extract (s p : ByteArray) (h : Lib.hasPrefix s.data.toList p.data.toList = true) : s.extract 0 p.size = p := by
  have h1 := (List.isPrefixOf_iff_prefix.1 h)
  have h2 : (s.extract 0 p.size).data.toList = p.data.toList := by
    rw [Lib.extract_data, List.drop_zero, Nat.sub_zero]
    have h3 := List.prefix_iff_eq_take.1 h1
    rw [show p.size = p.data.toList.length by simp]
    exact h3.symm
  exact WideShapes.bytes_inj h2
theorem extract_zero (s : ByteArray) : s.extract 0 0 = ⟨#[]⟩ := WideShapes.bytes_inj (by rw [Lib.extract_data]; rfl)
theorem prefix_is (s p : ByteArray) (b : Bool) (h : Lib.hasPrefix s.data.toList p.data.toList = b) (w : World) : Calls Tryd.prog 45 #[.string s, .string p] w fun e w' => e = .returned (.bool b) ∧ w = w' :=
  (Tryd.strings_HasPrefix s p w).mono fun _ _ hh => ⟨by rw [hh.1, h], hh.2.symm⟩

set_option maxRecDepth 100000 in
set_option maxHeartbeats 4000000 in
theorem first_sym (s : ByteArray) (h0 : 0 < s.size) (hs : s.size ≤ maxLen) (m : Nat) (hc : Lx.cls s[0] = m) (hm : m = 0 ∨ 4 ≤ m) (n k : Nat) (hn : Lx.tokLen s.data.toList = n) (hk : (n = 0 → k = 0) ∧ (n ≠ 0 → k = 3)) (tb : Nat) (w : World) (htb : tb < w.heap.size) (hT : w.heap[tb]? = some (.cells symCells 9 (0, 0))) :
    Calls Tryd.prog 36 #[.string s, .slice (some ⟨tb, 0, none⟩) 22 22] w (FirstPost s k n w) := by
  have ha := in_any s sSmall h0 false (by rw [small_cls, hc]; simp only [beq_eq_false_iff_ne]; omega)
  have hb := in_any s sCap h0 false (by rw [cap_cls, hc]; simp only [beq_eq_false_iff_ne]; omega)
  have hd := in_any s sDig h0 false (by rw [dig_cls, hc]; simp only [beq_eq_false_iff_ne]; omega)
  have htl : Lx.tokLen s.data.toList = Lx.symIn Lx.syms s.data.toList := by
    have hd := drop_cons s 0 h0
    rw [List.drop_zero] at hd
    rw [hd]
    simp only [Lx.tokLen]
    rw [if_neg (by omega), if_neg (by omega), if_neg (by omega)]
  rw [htl] at hn
  clear htl
  have HN := Lib.hid hn
  have HK := Lib.hid hk
  clear hn hk
  have Ha := Lib.hid ha
  have Hb := Lib.hid hb
  have Hd := Lib.hid hd
  have hcells : ∀ i, i < 22 → w.cell? ⟨tb, i, none⟩ = some (.string (sy i)) := fun i hi => by
    rw [cell_of_row _ tb i symCells 9 (0, 0) hT]; exact symCells_at i hi
  clear ha hb hd hc hm
  go_enter Tryd.func36, Tryd.ntmps36
  go_wp2_with fail
  refine (Ha.out _).mono ?_
  rintro e w' ⟨rfl, rfl⟩
  go_wp2_with fail
  refine (Hb.out _).mono ?_
  rintro e w' ⟨rfl, rfl⟩
  go_wp2_with fail
  refine (Hd.out _).mono ?_
  rintro e w' ⟨rfl, rfl⟩
  go_wp2_with fail
  go_loopw [33] (fun t wr => ∃ (i : Nat), i ≤ 22 ∧ t = .int .i64 i ∧ wr = (w.alloc (.cells #[.int .i64 0, .int .i64 0, .int .i64 0, .string ⟨#[]⟩] 38)) ∧ Hid (Lx.symIn (Lx.syms.drop i) s.data.toList = Lx.symIn Lx.syms s.data.toList)) (fun t _ => 22 - (intOf t).toNat)
  case atStart => exact ⟨0, by omega, rfl, rfl, Lib.hid rfl⟩
  case round =>
    obtain ⟨i, hi, rfl, rfl, HE⟩ := hrel
    by_cases hlt : i < 22
    · have hcell := hcells i hlt
      have hne : tb ≠ w.heap.size := by omega
      clear hcells
      cases hp : Lib.hasPrefix s.data.toList (sy i).data.toList with
      | true =>
        have HP := Lib.hid hp
        clear hp
        go_wp2_with (go_at_call 45; refine (prefix_is s (sy i) true HP.out _).mono ?_; rintro e w' ⟨rfl, rfl⟩)
        have hfin : n = (sy i).size ∧ k = 3 := by
          have h1 := HE.out
          rw [symIn_hit hlt HP.out, HN.out] at h1
          have h2 := sy_pos i hlt
          exact ⟨h1.symm, HK.out.2 (by omega)⟩
        obtain ⟨rfl, rfl⟩ := hfin
        exact bodyPost_ret (v := .agg #[.int .i64 3, .int .i64 0, .int .i64 0, .string (sy i)]) (by simp [results, Tryd.results36, go_sem]) rfl ⟨by rw [prefix_extract s (sy i) HP.out]; rfl, (Below.refl _ _).alloc (Nat.le_refl _) _⟩
      | false =>
        have HP := Lib.hid hp
        clear hp
        go_wp2_with (go_at_call 45; refine (prefix_is s (sy i) false HP.out _).mono ?_; rintro e w' ⟨rfl, rfl⟩)
        go_roundw
        case rel =>
          refine ⟨i + 1, by omega, by go_num, trivial, Lib.hid ?_⟩
          have h1 := HE.out
          rw [symIn_miss hlt HP.out] at h1
          exact h1
        case measure => simp [intOf]; omega
    · go_wp2
      have hi22 : i = 22 := by omega
      subst hi22
      have hfin : n = 0 ∧ k = 0 := by
        have h1 := HE.out
        rw [HN.out, show Lx.symIn (Lx.syms.drop 22) s.data.toList = 0 from rfl] at h1
        exact ⟨h1.symm, HK.out.1 h1.symm⟩
      obtain ⟨rfl, rfl⟩ := hfin
      exact bodyPost_ret (v := .agg #[.int .i64 0, .int .i64 0, .int .i64 0, .string ⟨#[]⟩]) (by simp [results, Tryd.results36, go_sem]) rfl ⟨by rw [extract_zero]; rfl, (Below.refl _ _).alloc (Nat.le_refl _) _⟩


theorem first_any (s : ByteArray) (h0 : 0 < s.size) (hs : s.size ≤ maxLen) (n k : Nat) (hn : Lx.tokLen s.data.toList = n) (hk : k = if n = 0 then 0 else Lx.kindOf s[0]) (tb : Nat) (w : World) (htb : tb < w.heap.size) (hT : w.heap[tb]? = some (.cells symCells 9 (0, 0))) :
    Calls Tryd.prog 36 #[.string s, .slice (some ⟨tb, 0, none⟩) 22 22] w (FirstPost s k n w) := by
  have hdc := drop_cons s 0 h0
  rw [List.drop_zero] at hdc
  have hpos : ∀ m, Lx.cls s[0] = m → m = 1 ∨ m = 2 ∨ m = 3 → n ≠ 0 := fun m h1 h2 => by
    rw [hdc] at hn
    simp only [Lx.tokLen] at hn
    rw [h1] at hn
    rcases h2 with rfl | rfl | rfl <;> simp at hn <;> omega
  by_cases h1 : Lx.cls s[0] = 1
  · have := hpos 1 h1 (by simp)
    rw [if_neg this] at hk
    have hk0 : k = 0 := by rw [hk]; unfold Lx.kindOf; rw [if_pos h1]
    subst hk0 hn
    exact first_word s h0 hs h1 _ _ _ w
  · by_cases h2 : Lx.cls s[0] = 2
    · have := hpos 2 h2 (by simp)
      rw [if_neg this] at hk
      have hk0 : k = 1 := by rw [hk]; unfold Lx.kindOf; rw [if_neg h1, if_pos h2]
      subst hk0 hn
      exact first_cap s h0 hs h2 _ _ _ w
    · by_cases h3 : Lx.cls s[0] = 3
      · have := hpos 3 h3 (by simp)
        rw [if_neg this] at hk
        have hk0 : k = 2 := by rw [hk]; unfold Lx.kindOf; rw [if_neg h1, if_neg h2, if_pos h3]
        subst hk0 hn
        exact first_num s h0 hs h3 _ _ _ w
      · refine first_sym s h0 hs _ rfl (by omega) n k hn ⟨fun h => by rw [hk, if_pos h], fun h => ?_⟩ tb w htb hT
        rw [hk, if_neg h]; unfold Lx.kindOf; rw [if_neg h1, if_neg h2, if_neg h3]

end Go.Proofs.YtgmlghmlmfbfjaaDoor
