/- The texts of pieces. -/
import Derived.Test.YtgmlghmlmfbfjaaDoorGb
namespace Go.Proofs.YtgmlghmlmfbfjaaDoor
open Go Go.RowKit

/-- A slice of integers that can be read. -/
def IntSl (w : World) (v : Value) (l : List Int) : Prop :=
  ∃ A c, v = .slice A l.length c ∧ l.length ≤ c ∧ l.length ≤ maxLen ∧ (∀ k, I64 (l.getD k 0)) ∧ (0 < l.length → ∃ a : Addr, A = some a ∧ a.block < w.heap.size ∧ ∀ k, k < l.length → w.cell? (a.add k) = some (.int .i64 (l.getD k 0)))
theorem add_block (a : Addr) (k : Nat) : (a.add k).block = a.block := by unfold Addr.add; split <;> simp_all
theorem int_cell {w : World} {A : Option Addr} {n c : Nat} {l : List Int} (h : IntSl w (.slice A n c) l) (k : Nat) (hk : k < n) : I64 (l.getD k 0) ∧ ∃ a, A = some a ∧ a.block < w.heap.size ∧ w.cell? (a.add k) = some (.int .i64 (l.getD k 0)) := by
  obtain ⟨A', c', h1, h2, h3, h4, h5⟩ := h
  injection h1 with e1 e2 e3
  subst e1 e2
  obtain ⟨a, ha, hb, hc⟩ := h5 (by omega)
  exact ⟨h4 k, a, ha, hb, hc k hk⟩
theorem IntSl.form {w : World} {v : Value} {l : List Int} (h : IntSl w v l) : ∃ A c, v = .slice A l.length c ∧ l.length ≤ c ∧ l.length ≤ maxLen := by
  obtain ⟨A, c, h1, h2, h3, _⟩ := h
  exact ⟨A, c, h1, h2, h3⟩
theorem IntSl.below {w w' : World} {v : Value} {l : List Int} (h : IntSl w v l) (hb : Below w.heap.size w w') : IntSl w' v l := by
  obtain ⟨A, c, h1, h2, h3, h4, h5⟩ := h
  refine ⟨A, c, h1, h2, h3, h4, fun h0 => ?_⟩
  obtain ⟨a, hA, hg, hc⟩ := h5 h0
  exact ⟨a, hA, Nat.lt_of_lt_of_le hg hb.size, fun k hk => (hb.cell (p := a.add k) (by rw [add_block]; exact hg)).trans (hc k hk)⟩

set_option maxHeartbeats 1000000 in
theorem text_any (l : List Int) (v : Value) (w : World) (hl : IntSl w v l) :
    Calls Tryd.prog 11 #[v] w fun e w' => ∃ s : ByteArray, e = .returned (.string s) ∧ s.size ≤ 408 ∧ Below w.heap.size w w' := by
  obtain ⟨A, c, rfl, hc, hm⟩ := hl.form
  generalize hn : l.length = n at *
  have HL := Lib.hid hl
  clear hl hn
  unfold maxLen at hm
  go_enter Tryd.func11, Tryd.ntmps11
  go_wp2
  go_loopw [3, 4] (fun v t wr => ∃ (s : ByteArray) (k : Nat), k ≤ n ∧ k ≤ 24 ∧ v = .string s ∧ t = .int .i64 k ∧ s.size ≤ 17 * k ∧ Below w.heap.size w wr) (fun _ t _ => n - (intOf t).toNat)
  case atStart => exact ⟨⟨#[]⟩, 0, by omega, by omega, rfl, rfl, Nat.le_refl 0, Below.refl _ _⟩
  case round =>
    obtain ⟨s, k, hk, hk24, rfl, rfl, hs, hbel⟩ := hrel
    by_cases hlt : k < n
    · by_cases hl24 : k < 24
      · obtain ⟨hi, a, rfl, hg, hcell'⟩ := int_cell HL.out k hlt
        have hcell := (hbel.cell (p := a.add k) (by rw [add_block]; exact hg)).trans hcell'
        clear hcell'
        have f0 : (0 : Int) ≤ (k : Int) := by omega
        have f1 : (k : Int) < (n : Int) := by omega
        have hp := pt_size (around (l.getD k 0) 46)
        have HP := fun w1 => part_any (l.getD k 0) hi w1
        have HPH := Lib.hid HP
        clear HP
        generalize pt (around (l.getD k 0) 46) = q at *
        generalize l.getD k 0 = x at *
        have hfit : s.size + q.size ≤ 140737488355328 := by omega
        go_wp2_with (go_at_call 20; refine (HPH.out _).mono ?_; rintro e w' ⟨rfl, rfl⟩)
        go_roundw
        case rel => exact ⟨_, k + 1, by omega, by omega, rfl, by go_num, by rw [ByteArray.size_append]; omega, by first | exact hbel.alloc hbel.size _ | exact bdn (hbel.alloc hbel.size _) _⟩
        case measure => simp [intOf]; omega
      · go_wp2
        go_ret
        exact ⟨_, rfl, by omega, hbel⟩
    · go_wp2
      go_ret
      exact ⟨_, rfl, by omega, hbel⟩

end Go.Proofs.YtgmlghmlmfbfjaaDoor
