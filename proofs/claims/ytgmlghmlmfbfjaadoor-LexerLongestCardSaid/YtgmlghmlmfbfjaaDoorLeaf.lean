/- Walks of the leaves. -/
import Derived.Test.YtgmlghmlmfbfjaaDoorProg
import Derived.Test.YtgmlghmlmfbfjaaDoorPure
import Derived.WalkKit
import Derived.ProofKit
import Derived.Below
import Derived.Lib.Hide
import Derived.Deep.QuietTactic
import Derived.BigQuiet
import Derived.Outline
namespace Go.Proofs.YtgmlghmlmfbfjaaDoor
open Go.RowKit

theorem ret_i {a b : Int} {w : World} (h : a = b) : Ending.returned (.int .i64 a) = .returned (.int .i64 b) ∧ w = w := ⟨by rw [h], rfl⟩

theorem class_n (n : Nat) (hlt : n < 256) (w : World) : Calls Tryd.prog 29 #[.int .u8 (n : Int)] w fun e w' => e = .returned (.int .i64 (Lx.clsN n : Int)) ∧ w' = w := by
  go_enter Tryd.func29, Tryd.ntmps29
  go_wp2
  all_goals go_ret
  all_goals
    refine ret_i ?_
    simp only [beq_eq_false_iff_ne, ne_eq, beq_iff_eq] at *
    unfold Lx.clsN
    repeat' split
    all_goals omega
theorem class_any (c : UInt8) (w : World) : Calls Tryd.prog 29 #[.int .u8 (c.toNat : Int)] w fun e w' => e = .returned (.int .i64 (Lx.cls c : Int)) ∧ w' = w :=
  class_n c.toNat c.toNat_lt w

theorem class_is (c : UInt8) (m : Nat) (h : Lx.cls c = m) (w : World) : Calls Tryd.prog 29 #[.int .u8 (c.toNat : Int)] w fun e w' => e = .returned (.int .i64 (m : Int)) ∧ w = w' := by
  subst h; exact (class_any c w).mono fun e w' h => ⟨h.1, h.2.symm⟩
theorem bdn {B : Nat} {a w : World} (h : Below B a w) (n : Nat) : Below B a (w.drewN n) := ⟨h.os, h.tape, h.output, h.size, h.block⟩
theorem drop_cons (s : ByteArray) (k : Nat) (h : k < s.size) : s.data.toList.drop k = s[k] :: s.data.toList.drop (k + 1) := by
  rw [List.drop_eq_getElem_cons (by simpa using h)]; rfl
theorem drop_end (s : ByteArray) (k : Nat) (h : s.size ≤ k) : s.data.toList.drop k = [] := List.drop_eq_nil_of_le (by simpa using h)

set_option maxHeartbeats 1000000 in
theorem skip_any (s : ByteArray) (k0 : Nat) (w : World) (hs : s.size ≤ maxLen) (hk0 : k0 ≤ s.size) :
    Calls Tryd.prog 27 #[.string s, .int .i64 (k0 : Int)] w fun e w' => e = .returned (.int .i64 (k0 + Lx.skipL false (s.data.toList.drop k0) : Nat)) ∧ w' = w := by
  unfold maxLen at hs
  go_enter Tryd.func27, Tryd.ntmps27
  go_wp2
  go_loop [1, 5] (fun t c => ∃ (k : Nat) (cm : Bool), k ≤ s.size ∧ t = .int .i64 k ∧ c = .bool cm ∧ Hid (k + Lx.skipL cm (s.data.toList.drop k) = k0 + Lx.skipL false (s.data.toList.drop k0))) (fun t _ => s.size - (intOf t).toNat)
  case atStart => exact ⟨k0, false, hk0, rfl, rfl, Lib.hid rfl⟩
  case round =>
    obtain ⟨k, cm, hk, rfl, rfl, HE⟩ := hrel
    by_cases hlt : k < s.size
    · go_wp2_with (go_at_call 29; refine (class_any _ _).mono ?_; rintro e w' ⟨rfl, rfl⟩)
      all_goals
        have HE1 := HE.out
        rw [drop_cons s k hlt] at HE1
        simp only [beq_eq_false_iff_ne, ne_eq, beq_iff_eq, bne_iff_ne, bne_eq_false_iff_eq, Bool.not_eq_true] at *
      all_goals first
        | (go_ret
           refine ret_i ?_
           rw [Lx.skipL_stop (by unfold Lx.nextC; (repeat' split) <;> first | rfl | assumption | omega) (by omega)] at HE1
           omega)
        | (go_round
           case rel =>
             refine ⟨k + 1, Lx.nextC cm s[k], by omega, by go_num, ?_, Lib.hid ?_⟩
             · unfold Lx.nextC; (repeat' split) <;> first | rfl | omega | (simp_all; done)
             · rw [Lx.skipL_go (by intro hh; obtain ⟨hh1, hh2⟩ := hh; unfold Lx.nextC at hh1; (repeat' split at hh1) <;> first | omega | (simp_all; done))] at HE1
               rw [← HE1]; omega
           case measure => simp [intOf]; omega)
    · go_wp2
      go_ret
      refine ret_i ?_
      have := HE.out
      rw [drop_end s k (by omega)] at this
      simp only [Lx.skipL] at this
      omega

end Go.Proofs.YtgmlghmlmfbfjaaDoor
