/- Walks of the generator's leaves. -/
import Derived.Test.YtgmlghmlmfbfjaaDoorTb
import Derived.Deep.RegionHeld3
import Derived.WalkSpells
namespace Go.Proofs.YtgmlghmlmfbfjaaDoor
open Go Go.RowKit

/-- n modulo m, never negative. -/
def around (n : Int) (m : Nat) : Nat := (if n < 0 then -(n + 1) else n).toNat % m
theorem around_lt (n : Int) (m : Nat) (h : 0 < m) : around n m < m := Nat.mod_lt _ h
/-- An int of the machine. -/
def I64 (n : Int) : Prop := -9223372036854775808 ≤ n ∧ n < 9223372036854775808
theorem around_neg {n : Int} {m : Nat} (h : n < 0) : (-(n + 1)).tmod (m : Int) = (around n m : Int) := by
  unfold around
  rw [if_pos h]
  obtain ⟨k, hk⟩ := Int.eq_ofNat_of_zero_le (show (0 : Int) ≤ -(n + 1) by omega)
  rw [hk]; simp [Int.tmod_eq_emod_of_nonneg]
theorem around_pos {n : Int} {m : Nat} (h : ¬ n < 0) : n.tmod (m : Int) = (around n m : Int) := by
  unfold around
  rw [if_neg h]
  obtain ⟨k, hk⟩ := Int.eq_ofNat_of_zero_le (show (0 : Int) ≤ n by omega)
  rw [hk]; simp [Int.tmod_eq_emod_of_nonneg]

theorem around_any (n : Int) (m : Nat) (hn : I64 n) (h1 : 0 < m) (h2 : m < 9223372036854775808) (w : World) :
    Calls Tryd.prog 15 #[.int .i64 n, .int .i64 (m : Int)] w fun e w' => e = .returned (.int .i64 (around n m : Int)) ∧ w' = w := by
  obtain ⟨ha, hb⟩ := hn
  have hm : (m : Int) ≠ 0 := by omega
  have hm2 : (m : Int) ≠ -1 := by omega
  by_cases h : n < 0
  · have E := around_neg (m := m) h
    have hlt := around_lt n m h1
    have E2 := Lib.hid E
    go_enter Tryd.func15, Tryd.ntmps15
    go_wp2
    go_ret
    exact ret_i (by first | exact E2.out | (have := E2.out; go_num))
  · have E := around_pos (m := m) h
    have E2 := Lib.hid E
    go_enter Tryd.func15, Tryd.ntmps15
    go_wp2
    go_ret
    exact ret_i (by first | exact E2.out | (have := E2.out; go_num))

def shortB (s : ByteArray) (n : Nat) : ByteArray := if s.size ≤ n then s else s.extract 0 n
theorem short_any (s : ByteArray) (n : Nat) (hn : n < 9223372036854775808) (hs : s.size ≤ maxLen) (w : World) :
    Calls Tryd.prog 13 #[.string s, .int .i64 (n : Int)] w fun e w' => e = .returned (.string (shortB s n)) ∧ w' = w := by
  unfold maxLen at hs
  have f0 : (0 : Int) ≤ (n : Int) := by omega
  by_cases h : s.size ≤ n
  · have E : shortB s n = s := by unfold shortB; rw [if_pos h]
    have E2 := Lib.hid E
    clear E
    go_enter Tryd.func13, Tryd.ntmps13
    go_wp2
    go_ret
    exact ⟨by rw [E2.out]; rfl, rfl⟩
  · have E : shortB s n = s.extract 0 n := by unfold shortB; rw [if_neg h]
    have E2 := Lib.hid E
    clear E
    have f1 : (n : Int) ≤ s.size := by omega
    go_enter Tryd.func13, Tryd.ntmps13
    go_wp2
    go_ret
    exact ⟨by rw [E2.out]; first | rfl | (congr 2), rfl⟩
theorem shortB_size (s : ByteArray) (n : Nat) (h : s.size ≤ maxLen) : (shortB s n).size ≤ maxLen := by
  unfold shortB
  split
  · exact h
  · have := ByteArray.size_extract (a := s) (b := 0) (e := n)
    omega

end Go.Proofs.YtgmlghmlmfbfjaaDoor
