/- a -/
import Derived.Test.YtgmlghmlmfbfjaaDoorLeaf
namespace Go.Proofs.YtgmlghmlmfbfjaaDoor
open Go.RowKit

set_option maxHeartbeats 1000000 in
theorem end_small (s : ByteArray) (a : Nat) (w : World) (hs : s.size ≤ maxLen) (ha : a < s.size) (hc : Lx.cls s[a] = 1) :
    Calls Tryd.prog 28 #[.string s, .int .i64 (a : Int)] w fun e w' => e = .returned (.int .i64 (a + 1 + Lx.tw Lx.p1 (s.data.toList.drop (a + 1)) : Nat)) ∧ w' = w := by
  unfold maxLen at hs
  have C := class_is _ 1 hc w
  have HC := Lib.hid C
  clear C
  have HH := Lib.hid hc
  clear hc
  go_enter Tryd.func28, Tryd.ntmps28
  go_wp2_with (go_at_call 29; refine HC.out.mono ?_; rintro e w' ⟨rfl, rfl⟩)
  go_loop [5] (fun t => ∃ (k : Nat), k ≤ s.size ∧ t = .int .i64 k ∧ Hid (k + Lx.tw Lx.p1 (s.data.toList.drop k) = a + 1 + Lx.tw Lx.p1 (s.data.toList.drop (a + 1)))) (fun t => s.size - (intOf t).toNat)
  case atStart => exact ⟨a + 1, by omega, by go_num, Lib.hid rfl⟩
  case round =>
    obtain ⟨k, hk, rfl, HE⟩ := hrel
    clear HC
    by_cases hlt : k < s.size
    · go_wp2_with (go_at_call 29; refine (class_any _ _).mono ?_; rintro e w' ⟨rfl, rfl⟩)
      all_goals
        have HE1 := HE.out
        rw [drop_cons s k hlt] at HE1
        try simp only [beq_eq_false_iff_ne, ne_eq, beq_iff_eq] at *
      all_goals first
        | (go_ret
           refine ret_i ?_
           rw [Lx.tw_stop (by simp only [Lx.p1, Bool.or_eq_false_iff, beq_eq_false_iff_ne]; omega)] at HE1
           omega)
        | (go_round
           case rel =>
             refine ⟨k + 1, by omega, by go_num, Lib.hid ?_⟩
             rw [Lx.tw_go (by simp only [Lx.p1, Bool.or_eq_true, beq_iff_eq]; omega)] at HE1
             rw [← HE1]; omega
           case measure => simp [intOf]; omega)
    · go_wp2
      go_ret
      refine ret_i ?_
      have := HE.out
      rw [drop_end s k (by omega)] at this
      simp only [Lx.tw] at this
      omega

set_option maxHeartbeats 1000000 in
theorem end_cap (s : ByteArray) (a : Nat) (w : World) (hs : s.size ≤ maxLen) (ha : a < s.size) (hc : Lx.cls s[a] = 2) :
    Calls Tryd.prog 28 #[.string s, .int .i64 (a : Int)] w fun e w' => e = .returned (.int .i64 (a + 1 + Lx.tw Lx.p2 (s.data.toList.drop (a + 1)) : Nat)) ∧ w' = w := by
  unfold maxLen at hs
  have C := class_is _ 2 hc w
  have HC := Lib.hid C
  clear C
  have HH := Lib.hid hc
  clear hc
  go_enter Tryd.func28, Tryd.ntmps28
  go_wp2_with (go_at_call 29; refine HC.out.mono ?_; rintro e w' ⟨rfl, rfl⟩)
  go_loop [5] (fun t => ∃ (k : Nat), k ≤ s.size ∧ t = .int .i64 k ∧ Hid (k + Lx.tw Lx.p2 (s.data.toList.drop k) = a + 1 + Lx.tw Lx.p2 (s.data.toList.drop (a + 1)))) (fun t => s.size - (intOf t).toNat)
  case atStart => exact ⟨a + 1, by omega, by go_num, Lib.hid rfl⟩
  case round =>
    obtain ⟨k, hk, rfl, HE⟩ := hrel
    clear HC
    by_cases hlt : k < s.size
    · go_wp2_with (go_at_call 29; refine (class_any _ _).mono ?_; rintro e w' ⟨rfl, rfl⟩)
      all_goals
        have HE1 := HE.out
        rw [drop_cons s k hlt] at HE1
        try simp only [beq_eq_false_iff_ne, ne_eq, beq_iff_eq] at *
      all_goals first
        | (go_ret
           refine ret_i ?_
           rw [Lx.tw_stop (by simp only [Lx.p2, Bool.and_eq_false_iff, decide_eq_false_iff_not]; omega)] at HE1
           omega)
        | (go_round
           case rel =>
             refine ⟨k + 1, by omega, by go_num, Lib.hid ?_⟩
             rw [Lx.tw_go (by simp only [Lx.p2, Bool.and_eq_true, decide_eq_true_eq]; omega)] at HE1
             rw [← HE1]; omega
           case measure => simp [intOf]; omega)
    · go_wp2
      go_ret
      refine ret_i ?_
      have := HE.out
      rw [drop_end s k (by omega)] at this
      simp only [Lx.tw] at this
      omega

set_option maxHeartbeats 1000000 in
theorem end_num (s : ByteArray) (a : Nat) (w : World) (hs : s.size ≤ maxLen) (ha : a < s.size) (hc : Lx.cls s[a] = 3) :
    Calls Tryd.prog 28 #[.string s, .int .i64 (a : Int)] w fun e w' => e = .returned (.int .i64 (a + 1 + Lx.tw Lx.p3 (s.data.toList.drop (a + 1)) : Nat)) ∧ w' = w := by
  unfold maxLen at hs
  have C := class_is _ 3 hc w
  have HC := Lib.hid C
  clear C
  have HH := Lib.hid hc
  clear hc
  go_enter Tryd.func28, Tryd.ntmps28
  go_wp2_with (go_at_call 29; refine HC.out.mono ?_; rintro e w' ⟨rfl, rfl⟩)
  go_loop [5] (fun t => ∃ (k : Nat), k ≤ s.size ∧ t = .int .i64 k ∧ Hid (k + Lx.tw Lx.p3 (s.data.toList.drop k) = a + 1 + Lx.tw Lx.p3 (s.data.toList.drop (a + 1)))) (fun t => s.size - (intOf t).toNat)
  case atStart => exact ⟨a + 1, by omega, by go_num, Lib.hid rfl⟩
  case round =>
    obtain ⟨k, hk, rfl, HE⟩ := hrel
    clear HC
    by_cases hlt : k < s.size
    · go_wp2_with (go_at_call 29; refine (class_any _ _).mono ?_; rintro e w' ⟨rfl, rfl⟩)
      all_goals
        have HE1 := HE.out
        rw [drop_cons s k hlt] at HE1
        try simp only [beq_eq_false_iff_ne, ne_eq, beq_iff_eq] at *
      all_goals first
        | (go_ret
           refine ret_i ?_
           rw [Lx.tw_stop (by simp only [Lx.p3, beq_eq_false_iff_ne]; omega)] at HE1
           omega)
        | (go_round
           case rel =>
             refine ⟨k + 1, by omega, by go_num, Lib.hid ?_⟩
             rw [Lx.tw_go (by simp only [Lx.p3, beq_iff_eq]; omega)] at HE1
             rw [← HE1]; omega
           case measure => simp [intOf]; omega)
    · go_wp2
      go_ret
      refine ret_i ?_
      have := HE.out
      rw [drop_end s k (by omega)] at this
      simp only [Lx.tw] at this
      omega

end Go.Proofs.YtgmlghmlmfbfjaaDoor
