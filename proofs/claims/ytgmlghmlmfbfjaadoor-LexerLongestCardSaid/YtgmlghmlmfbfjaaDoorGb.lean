/- The pieces of a text. -/
import Derived.Test.YtgmlghmlmfbfjaaDoorGa
namespace Go.Proofs.YtgmlghmlmfbfjaaDoor
open Go Go.RowKit

/-- The table of pieces. -/
def pieces : List (List UInt8) := [[97],
  [115, 105, 122, 101],
  [120, 95, 50],
  [76, 101, 97, 102],
  [70, 48],
  [49, 50],
  [48],
  [49, 48, 57, 57, 53, 49, 49, 54, 50, 55, 55, 55, 54],
  [48, 48, 55],
  [45, 62],
  [60, 45],
  [60, 61],
  [61, 61],
  [33, 61],
  [46, 46],
  [40],
  [41],
  [91],
  [93],
  [123],
  [125],
  [44],
  [59],
  [58],
  [61],
  [60],
  [43],
  [45],
  [42],
  [47],
  [124],
  [32],
  [10],
  [9],
  [35, 32, 99, 32, 60, 45, 32, 34, 10],
  [105, 102],
  [97, 50, 51, 52, 53, 54, 55, 56, 57, 48, 49, 50, 51, 52, 53, 54],
  [97, 50, 51, 52, 53, 54, 55, 56, 57, 48, 49, 50, 51, 52, 53, 54, 55],
  [65, 50, 51, 52, 53, 54, 55, 56, 57, 48, 49, 50, 51, 52, 53, 54, 55],
  [49, 48, 57, 57, 53, 49, 49, 54, 50, 55, 55, 55, 55],
  [46],
  [33],
  [95],
  [195, 169],
  [13],
  [35]]
def piece (i : Nat) : List UInt8 := pieces.getD i []
def pt (i : Nat) : ByteArray := ⟨(piece i).toArray⟩
def partCells : Array Value := ((List.range 46).map (fun i => Value.string (pt i))).toArray
theorem partCells_at (i : Nat) (h : i < 46) : partCells[i]? = some (.string (pt i)) := by
  unfold partCells
  rw [List.getElem?_toArray, List.getElem?_map, List.getElem?_range h]; rfl
theorem partCells_cell (w : World) (i : Nat) (h : i < 46) : (w.alloc (.cells partCells 9)).cell? ⟨w.heap.size, i, none⟩ = some (.string (pt i)) := by
  rw [cell_of_row _ w.heap.size i partCells 9 (0, 0) (heap_alloc_new w _)]; exact partCells_at i h
theorem piece_size (i : Nat) : (piece i).length ≤ 17 := by
  have h : ∀ l ∈ ([] : List UInt8) :: pieces, l.length ≤ 17 := by decide
  refine h _ ?_
  unfold piece
  rw [List.getD_eq_getElem?_getD]
  cases he : pieces[i]? with
  | none => simp
  | some x => simpa using .inr (List.mem_of_getElem? he)
theorem pt_size (i : Nat) : (pt i).size ≤ 17 := piece_size i
set_option maxHeartbeats 1000000 in
theorem part_any (n : Int) (hn : I64 n) (w : World) :
    Calls Tryd.prog 20 #[.int .i64 n] w fun e w' => e = .returned (.string (pt (around n 46))) ∧ w' = w.alloc (.cells partCells 9) := by
  have hlt := around_lt n 46 (by omega)
  have f0 : (0 : Int) ≤ (around n 46 : Int) := by omega
  have f1 : (around n 46 : Int) < 46 := by omega
  have C := fun w1 => around_any n 46 hn (by omega) (by omega) w1
  have HC := Lib.hid C
  clear C
  go_enter Tryd.func20, Tryd.ntmps20
  go_wp2_with fail
  have hcells := partCells_cell w (around n 46) hlt
  obtain ⟨w1, hw1⟩ : ∃ w1, w.alloc (.cells partCells 9) = w1 := ⟨_, rfl⟩
  show Calls Tryd.prog 15 #[.int .i64 n, .int .i64 ((46 : Nat) : Int)] (w.alloc (.cells partCells 9)) _
  refine (HC.out _).mono ?_
  rw [hw1] at hcells ⊢
  rintro e w' ⟨rfl, rfl⟩
  have HW := Lib.hid hw1
  clear hw1
  go_wp2
  go_ret
  exact ⟨rfl, HW.out.symm⟩

end Go.Proofs.YtgmlghmlmfbfjaaDoor
