/- LexerLong, walked. -/
import Derived.Test.YtgmlghmlmfbfjaaDoorHa
import Derived.Deep.DeepFit
namespace Go.Proofs.YtgmlghmlmfbfjaaDoor
open Go Go.RowKit

/-- The parts of a long text. -/
def longs : List ByteArray := [⟨#[32, 32, 32, 32, 32, 32, 32, 32, 32, 32]⟩, ⟨#[97, 98, 99, 100, 101, 102, 103, 104, 105, 32]⟩, ⟨#[35, 35, 35, 35, 35, 35, 35, 35, 35, 10]⟩, ⟨#[49, 50, 51, 52, 53, 54, 55, 56, 58, 32]⟩]
def long (i : Nat) : ByteArray := longs.getD i ⟨#[]⟩
def longCells : Array Value := #[.string ⟨#[32, 32, 32, 32, 32, 32, 32, 32, 32, 32]⟩, .string ⟨#[97, 98, 99, 100, 101, 102, 103, 104, 105, 32]⟩, .string ⟨#[35, 35, 35, 35, 35, 35, 35, 35, 35, 10]⟩, .string ⟨#[49, 50, 51, 52, 53, 54, 55, 56, 58, 32]⟩]
theorem longCells_at (i : Nat) (h : i < 4) : longCells[i]? = some (.string (long i)) := by
  match i, h with
  | 0, _ => rfl
  | 1, _ => rfl
  | 2, _ => rfl
  | 3, _ => rfl
theorem longCells_cell (w : World) (i : Nat) (h : i < 4) : (w.alloc (.cells longCells 9)).cell? ⟨w.heap.size, i, none⟩ = some (.string (long i)) := by
  rw [cell_of_row _ w.heap.size i longCells 9 (0, 0) (heap_alloc_new w _)]; exact longCells_at i h
theorem long_size (i : Nat) (h : i < 4) : (long i).size = 10 := by
  match i, h with
  | 0, _ => rfl
  | 1, _ => rfl
  | 2, _ => rfl
  | 3, _ => rfl

set_option maxRecDepth 100000 in
set_option maxHeartbeats 2000000 in
theorem lexerLong_any (n how : Int) (w : World) (hn : I64 n) (hh : I64 how) (hR : RangeOk w) :
    Calls Tryd.prog 5 #[.int .i64 n, .int .i64 how] w fun e w' => e = .returned (.bool true) ∧ Below w.heap.size w w' := by
  have HR := Lib.hid hR
  have hlt := around_lt how 4 (by omega)
  have hls := long_size _ hlt
  have f0 : (0 : Int) ≤ (around how 4 : Int) := by omega
  have f1 : (around how 4 : Int) < 4 := by omega
  have hm := around_lt n 16 (by omega)
  have HA := Lib.hid (fun w1 => around_any how 4 hh (by omega) (by omega) w1)
  have HB := Lib.hid (fun w1 => around_any n 16 hn (by omega) (by omega) w1)
  have hb0 : Below w.heap.size w (w.alloc (.cells longCells 9)) := (Below.refl _ _).alloc (Nat.le_refl _) _
  have hcells := longCells_cell w (around how 4) hlt
  clear hR
  go_enter Tryd.func5, Tryd.ntmps5
  go_wp2_with fail
  obtain ⟨w1, hw1⟩ : ∃ w1, w.alloc (.cells longCells 9) = w1 := ⟨_, rfl⟩
  show Calls Tryd.prog 15 #[.int .i64 how, .int .i64 ((4 : Nat) : Int)] (w.alloc (.cells longCells 9)) _
  refine (HA.out _).mono ?_
  rw [hw1] at hcells hb0 ⊢
  rintro e w' ⟨rfl, rfl⟩
  have HW := Lib.hid hw1
  have B1 := Lib.hid hb0
  clear hw1 hb0
  generalize around how 4 = j at *
  generalize long j = p at *
  generalize hmm : around n 16 = m at *
  have HM := Lib.hid hmm
  clear hmm
  go_wp2_with fail
  go_loop [6, 7] (fun v t => ∃ (s : ByteArray) (k : Nat), k ≤ 818 ∧ v = .string s ∧ t = .int .i64 k ∧ s.size ≤ 10 * k) (fun _ t => 818 - (intOf t).toNat)
  case atStart => exact ⟨⟨#[]⟩, 0, by omega, rfl, rfl, Nat.le_refl 0⟩
  case round =>
    obtain ⟨s, k, hk, rfl, rfl, hs⟩ := hrel
    have hps : p.size ≤ 10 := by omega
    have HLS := Lib.hid hls
    clear hls
    by_cases hlt : k < 818
    · have hfit : s.size + p.size ≤ 140737488355328 := by omega
      go_wp2_with fail
      go_round
      case rel => exact ⟨_, k + 1, by omega, rfl, by go_num, by rw [ByteArray.size_append]; omega⟩
      case measure => simp [intOf]; omega
    · go_wp2_with fail
      go_fit (HB.out _)
      rintro e w' ⟨rfl, rfl⟩

      go_wp2_with fail
      go_loop [6, 8] (fun v t => ∃ (s : ByteArray) (k : Nat), k ≤ 20 ∧ v = .string s ∧ t = .int .i64 k ∧ s.size + k ≤ 8200) (fun _ t => (intOf t).toNat)
      case atStart => exact ⟨s, m + 5, by omega, rfl, by go_num, by omega⟩
      case round =>
        obtain ⟨s2, k2, hk2, rfl, rfl, hs2⟩ := hrel
        by_cases hlt2 : 0 < k2
        · have hfit : s2.size + 1 ≤ 140737488355328 := by omega
          go_wp2_with fail
          go_round
          case rel => exact ⟨_, k2 - 1, by omega, rfl, by go_num, by rw [ByteArray.size_append]; show s2.size + 1 + (k2 - 1) ≤ 8200; omega⟩
          case measure => simp [intOf]; omega
        · have hs3 : s2.size ≤ maxLen := by unfold maxLen; omega
          go_wp2_with fail
          refine (agrees_any _ hs3 _ (HR.out.below B1.out)).mono ?_
          rintro e w2 ⟨rfl, hb2⟩
          have B2 := Lib.hid (B1.out.trans (hb2.mono B1.out.size))
          clear hb2
          go_wp2_with fail
          refine (lives_any _ (HR.out.below B2.out)).mono ?_
          rintro e w3 ⟨rfl, hb3⟩
          have B3 := Lib.hid (B2.out.trans (hb3.mono B2.out.size))
          clear hb3
          go_wp2_with fail
          go_ret
          exact ⟨rfl, B3.out⟩

end Go.Proofs.YtgmlghmlmfbfjaaDoor
