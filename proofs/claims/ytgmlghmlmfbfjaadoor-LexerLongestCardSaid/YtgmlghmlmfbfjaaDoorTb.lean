/- b -/
import Derived.Test.YtgmlghmlmfbfjaaDoorLeaf
import Derived.Lib.Strings
import Derived.Lib.IndexBytes
namespace Go.Proofs.YtgmlghmlmfbfjaaDoor
open Go.RowKit

def sy (i : Nat) : ByteArray := ⟨(Lx.syms.getD i []).toArray⟩
def symCells : Array Value := ((List.range 22).map (fun i => Value.string (sy i))).toArray
theorem symCells_at (i : Nat) (h : i < 22) : symCells[i]? = some (.string (sy i)) := by
  unfold symCells
  rw [List.getElem?_toArray, List.getElem?_map, List.getElem?_range h]; rfl
theorem Symbols_any (w : World) : Calls Tryd.prog 42 #[] w fun e w' => e = .returned (.slice (some ⟨w.heap.size, 0, none⟩) 22 22) ∧ w.alloc (.cells symCells 9) = w' := by
  go_enter Tryd.func42, Tryd.ntmps42
  go_wp2
  go_ret
  exact ⟨rfl, rfl⟩
theorem symbols_any (w : World) : Calls Tryd.prog 32 #[] w fun e w' => e = .returned (.slice (some ⟨w.heap.size, 0, none⟩) 22 22) ∧ w.alloc (.cells symCells 9) = w' := by
  go_enter Tryd.func32, Tryd.ntmps32
  go_wp2
  go_ret
  exact ⟨rfl, rfl⟩
theorem symCells_cell (w : World) (i : Nat) (h : i < 22) : (w.alloc (.cells symCells 9)).cell? ⟨w.heap.size, i, none⟩ = some (.string (sy i)) := by
  rw [cell_of_row _ w.heap.size i symCells 9 (0, 0) (heap_alloc_new w _)]; exact symCells_at i h

theorem sy_size (i : Nat) : (sy i).size ≤ 2 := by
  have h : ∀ l ∈ ([] : List UInt8) :: Lx.syms, l.length ≤ 2 := by decide
  show (Lx.syms.getD i []).length ≤ 2
  refine h _ ?_
  rw [List.getD_eq_getElem?_getD]
  cases he : Lx.syms[i]? with
  | none => simp
  | some x => simpa using .inr (List.mem_of_getElem? he)
theorem syms_drop (i : Nat) (h : i < 22) : Lx.syms.drop i = (sy i).data.toList :: Lx.syms.drop (i + 1) := by
  have hl : i < Lx.syms.length := h
  rw [List.drop_eq_getElem_cons hl]
  congr 1
  show _ = Lx.syms.getD i []
  rw [List.getD_eq_getElem?_getD, List.getElem?_eq_getElem hl]; rfl
theorem symIn_hit {i : Nat} {l : List UInt8} (h : i < 22) (hp : Lib.hasPrefix l (sy i).data.toList = true) : Lx.symIn (Lx.syms.drop i) l = (sy i).size := by
  have hp' : (sy i).data.toList.isPrefixOf l = true := hp
  rw [syms_drop i h, Lx.symIn, if_pos hp']; rfl
theorem symIn_miss {i : Nat} {l : List UInt8} (h : i < 22) (hp : Lib.hasPrefix l (sy i).data.toList = false) : Lx.symIn (Lx.syms.drop i) l = Lx.symIn (Lx.syms.drop (i + 1)) l := by
  have hp' : ¬ (sy i).data.toList.isPrefixOf l = true := by rw [show (sy i).data.toList.isPrefixOf l = false from hp]; decide
  rw [syms_drop i h, Lx.symIn, if_neg hp']
theorem extract_prefix (s p : ByteArray) (a : Nat) (h : a + p.size ≤ s.size) : ((s.extract a (a + p.size)).toList == p.toList) = Lib.hasPrefix (s.data.toList.drop a) p.data.toList := by
  rw [← Lib.hasPrefix_of_take, ByteArray.toList_eq, ByteArray.toList_eq, Lib.extract_data]
  have h1 : p.data.toList.length = p.size := by simp
  have h2 : (s.data.toList.drop a).length = s.size - a := by simp
  have h3 : decide (p.data.toList.length ≤ (s.data.toList.drop a).length) = true := by rw [h1, h2]; exact decide_eq_true (by omega)
  rw [h3, Bool.true_and, h1, Nat.add_sub_cancel_left]
theorem prefix_short (s p : ByteArray) (a : Nat) (h : ¬ a + p.size ≤ s.size) (ha : a ≤ s.size) : Lib.hasPrefix (s.data.toList.drop a) p.data.toList = false := by
  rw [← Lib.hasPrefix_of_take]
  have h1 : p.data.toList.length = p.size := by simp
  have h2 : (s.data.toList.drop a).length = s.size - a := by simp
  have h3 : decide (p.data.toList.length ≤ (s.data.toList.drop a).length) = false := by rw [h1, h2]; exact decide_eq_false (by omega)
  rw [h3, Bool.false_and]
theorem ret_iB {a b : Int} {w w' : World} (h : a = b) (hb : Below w.heap.size w w') : Ending.returned (.int .i64 a) = .returned (.int .i64 b) ∧ Below w.heap.size w w' := ⟨by rw [h], hb⟩
set_option maxHeartbeats 1000000 in
theorem end_sym (s : ByteArray) (a m : Nat) (w : World) (hs : s.size ≤ maxLen - 2) (ha : a < s.size) (hc : Lx.cls s[a] = m) (hm : m = 0 ∨ 4 ≤ m) :
    Calls Tryd.prog 28 #[.string s, .int .i64 (a : Int)] w fun e w' => e = .returned (.int .i64 (a + Lx.symIn Lx.syms (s.data.toList.drop a) : Nat)) ∧ Below w.heap.size w w' := by
  unfold maxLen at hs
  have C := class_is _ m hc w
  have HC := Lib.hid C
  clear C
  have HH := Lib.hid hc
  clear hc
  have hm1 : ((m : Int) == 1) = false := by simp only [beq_eq_false_iff_ne]; omega
  have hm2 : ((m : Int) == 2) = false := by simp only [beq_eq_false_iff_ne]; omega
  have hm3 : ((m : Int) == 3) = false := by simp only [beq_eq_false_iff_ne]; omega
  go_enter Tryd.func28, Tryd.ntmps28
  go_wp2_with (first | (go_at_call 29; refine HC.out.mono ?_; rintro e w' ⟨rfl, rfl⟩) | (go_at_call 42; refine (Symbols_any _).mono ?_; rintro e w' ⟨rfl, rfl⟩))
  have hcells := symCells_cell w
  obtain ⟨w1, hw1⟩ : ∃ w1, w.alloc (.cells symCells 9) = w1 := ⟨_, rfl⟩
  have hb1 : Below w.heap.size w w1 := by rw [← hw1]; exact (Below.refl _ _).alloc (Nat.le_refl _) _
  rw [hw1] at hcells ⊢
  have HW1 := Lib.hid hw1
  clear hw1
  go_loopw [7] (fun t wr => ∃ (i n : Nat), i ≤ 22 ∧ t = .int .i64 i ∧ wr = w1.drewN n ∧ Hid (Lx.symIn (Lx.syms.drop i) (s.data.toList.drop a) = Lx.symIn Lx.syms (s.data.toList.drop a))) (fun t _ => 22 - (intOf t).toNat)
  case atStart => exact ⟨0, 0, by omega, rfl, rfl, Lib.hid rfl⟩
  case round =>
    obtain ⟨i, n, hi, rfl, rfl, HE⟩ := hrel
    clear HC
    by_cases hlt : i < 22
    · have hcell := hcells i hlt
      clear hcells
      have hsz := sy_size i
      by_cases hfit : a + (sy i).size ≤ s.size
      · have hd : decide ((a : Int) + ((sy i).size : Int) ≤ (s.size : Int)) = true := decide_eq_true (by omega)
        go_wp2
        have f0 : (0 : Int) ≤ (a : Int) := by omega
        have f1 : (a : Int) ≤ (a : Int) + ((sy i).size : Int) := by omega
        have f2 : (a : Int) + ((sy i).size : Int) ≤ (s.size : Int) := by omega
        have f4 : (0 : Int) ≤ (i : Int) := by omega
        have f5 : (i : Int) < 22 := by omega
        go_quiet (fail)
        go_wp2
        · have ht : ((s.extract a (a + (sy i).size)).toList == (sy i).toList) = true := by assumption
          rw [extract_prefix s _ a hfit] at ht
          go_ret
          refine ret_iB ?_ (bdn (bdn hb1 _) _)
          have HE1 := HE.out
          rw [symIn_hit hlt ht] at HE1
          rw [← HE1]; omega
        · have ht : ((s.extract a (a + (sy i).size)).toList == (sy i).toList) = false := by assumption
          rw [extract_prefix s _ a hfit] at ht
          go_roundw
          case rel =>
            refine ⟨i + 1, _, by omega, by go_num, rfl, Lib.hid ?_⟩
            have HE1 := HE.out
            rw [symIn_miss hlt ht] at HE1
            exact HE1
          case measure => simp [intOf]; omega
      · have hd : decide ((a : Int) + ((sy i).size : Int) ≤ (s.size : Int)) = false := decide_eq_false (by omega)
        go_wp2
        have f4 : (0 : Int) ≤ (i : Int) := by omega
        have f5 : (i : Int) < 22 := by omega
        go_quiet (fail)
        go_wp2
        go_roundw
        case rel =>
          refine ⟨i + 1, _, by omega, by go_num, rfl, Lib.hid ?_⟩
          have HE1 := HE.out
          rw [symIn_miss hlt (prefix_short s _ a hfit (by omega))] at HE1
          exact HE1
        case measure => simp [intOf]; omega
    · go_wp2
      go_ret
      refine ret_iB ?_ (bdn hb1 _)
      have HE1 := HE.out
      have hi22 : i = 22 := by omega
      subst hi22
      have h0 : Lx.symIn (Lx.syms.drop 22) (s.data.toList.drop a) = 0 := rfl
      omega

end Go.Proofs.YtgmlghmlmfbfjaaDoor
