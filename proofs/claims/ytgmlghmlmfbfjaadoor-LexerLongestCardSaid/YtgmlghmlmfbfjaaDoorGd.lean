/- The clean texts of pieces. -/
import Derived.Test.YtgmlghmlmfbfjaaDoorGc
import Derived.Deep.RegionHeld3
import Derived.Deep.DeepFit
import Derived.IntWalk
import Derived.Deep.CutRange
import Derived.Deep.LoopGhost
namespace Go.Proofs.YtgmlghmlmfbfjaaDoor
open Go Go.RowKit

/-- The blanks. -/
def seps : List (List UInt8) := [[32], [10], [10, 9]]
def sep (i : Nat) : List UInt8 := seps.getD i []
def sp (i : Nat) : ByteArray := ⟨(sep i).toArray⟩
def sepCells : Array Value := #[.string ⟨#[32]⟩, .string ⟨#[10]⟩, .string ⟨#[10, 9]⟩]
theorem sepCells_at (i : Nat) (h : i < 3) : sepCells[i]? = some (.string (sp i)) := by
  match i, h with
  | 0, _ => rfl
  | 1, _ => rfl
  | 2, _ => rfl
theorem sepCells_cell (w : World) (i : Nat) (h : i < 3) : (w.alloc (.cells sepCells 9)).cell? ⟨w.heap.size, i, none⟩ = some (.string (sp i)) := by
  rw [cell_of_row _ w.heap.size i sepCells 9 (0, 0) (heap_alloc_new w _)]; exact sepCells_at i h
theorem sep_size (i : Nat) : (sep i).length ≤ 2 := by
  have h : ∀ l ∈ ([] : List UInt8) :: seps, l.length ≤ 2 := by decide
  refine h _ ?_
  unfold sep
  rw [List.getD_eq_getElem?_getD]
  cases he : seps[i]? with
  | none => simp
  | some x => simpa using .inr (List.mem_of_getElem? he)
theorem sp_size (i : Nat) : (sp i).size ≤ 2 := sep_size i
/-- A piece of a clean text with the blanks behind it. -/
def cleanOne (x : Int) : List UInt8 := piece (around x 37) ++ sep (around (x.tdiv 37) 3)
def cleanL (l : List Int) : List UInt8 := (l.take 24).flatMap cleanOne

/-- A way out that is no other than the normal one. -/
def Norm (R : Act → World → Prop) : Exit → Act → World → Prop
  | .normal, a, w => R a w
  | _, _, _ => False
theorem Norm.mk {R : Act → World → Prop} {a : Act} {w : World} (h : R a w) : Norm R .normal a w := h
theorem Norm.out {R : Act → World → Prop} {e : Exit} {a : Act} {w : World} (h : Norm R e a w) : e = .normal ∧ R a w := by
  cases e <;> first | exact ⟨rfl, h⟩ | exact False.elim h
theorem clean_step {l : List Int} {k : Nat} (h : k < l.length) {s : ByteArray} (hs : s.data.toList = (l.take k).flatMap cleanOne) :
    (s ++ pt (around (l.getD k 0) 37) ++ sp (around ((l.getD k 0).tdiv 37) 3)).data.toList = (l.take (k + 1)).flatMap cleanOne := by
  rw [List.take_succ_eq_append_getElem h, List.flatMap_append]
  have e : l.getD k 0 = l[k] := by rw [List.getD_eq_getElem?_getD, List.getElem?_eq_getElem h]; rfl
  rw [e, ByteArray.data_append, ByteArray.data_append, Array.toList_append, Array.toList_append, hs, List.append_assoc]
  congr 1
  simp [cleanOne, pt, sp]
theorem bytes_of {s : ByteArray} {L : List UInt8} (h : s.data.toList = L) : s = ⟨L.toArray⟩ := by
  subst h; rfl
theorem clean_end {l : List Int} {k : Nat} {s : ByteArray} (hs : s.data.toList = (l.take k).flatMap cleanOne) (h : k = 24 ∨ k = l.length) (h2 : k ≤ 24) : s = ⟨(cleanL l).toArray⟩ := by
  rw [bytes_of hs]
  unfold cleanL
  rcases h with rfl | h
  · rfl
  · rw [List.take_of_length_le (by omega), List.take_of_length_le (by omega)]

set_option maxRecDepth 100000 in
set_option maxHeartbeats 4000000 in
theorem clean_any (l : List Int) (v : Value) (w : World) (hl : IntSl w v l) :
    Calls Tryd.prog 12 #[v] w fun e w' => e = .returned (.string ⟨(cleanL l).toArray⟩) ∧ Below w.heap.size w w' := by
  obtain ⟨A, c, rfl, hc, hm⟩ := hl.form
  generalize hn : l.length = n at *
  have HL := Lib.hid hl
  have HN := Lib.hid hn
  clear hl hn
  unfold maxLen at hm
  go_enter Tryd.func12, Tryd.ntmps12
  go_wp2
  go_loopw [3, 4] (fun v t wr => ∃ (s : ByteArray) (k : Nat), k ≤ n ∧ k ≤ 24 ∧ v = .string s ∧ t = .int .i64 k ∧ Hid (s.data.toList = (l.take k).flatMap cleanOne) ∧ s.size ≤ 19 * k ∧ Below w.heap.size w wr) (fun _ t _ => n - (intOf t).toNat)
  case atStart => exact ⟨⟨#[]⟩, 0, by omega, by omega, rfl, rfl, Lib.hid (by simp), Nat.le_refl 0, Below.refl _ _⟩
  case round =>
    obtain ⟨s, k, hk, hk24, rfl, rfl, HS, hs, hbel⟩ := hrel
    by_cases hlt : k < n
    · by_cases hl24 : k < 24
      · obtain ⟨hi, a, rfl, hg, hcell'⟩ := int_cell HL.out k hlt
        have hcell := (hbel.cell (p := a.add k) (by rw [add_block]; exact hg)).trans hcell'
        clear hcell'
        have f0 : (0 : Int) ≤ (k : Int) := by omega
        have f1 : (k : Int) < (n : Int) := by omega
        have HS2 := Lib.hid (clean_step (by rw [HN.out]; exact hlt) HS.out)
        generalize l.getD k 0 = x at *
        have hx0 := around_lt x 37 (by omega)
        have hp := pt_size (around x 37)
        have HP := fun w1 => part_any (around x 37) (by unfold I64; omega) w1
        have ha46 : around (around x 37) 46 = around x 37 := by
          unfold around at hx0 ⊢
          rw [if_neg (by omega : ¬ (((if x < 0 then -(x + 1) else x).toNat % 37 : Nat) : Int) < 0), Int.toNat_natCast, Nat.mod_eq_of_lt (by omega)]
        rw [ha46] at HP
        have HA : ∀ w1, Calls Tryd.prog 15 #[.int .i64 x, .int .i64 37] w1 fun e w' => e = .returned (.int .i64 (around x 37 : Int)) ∧ w' = w1 := fun w1 => around_any x 37 hi (by omega) (by omega) w1
        have HPH := Lib.hid HP
        have HAH := Lib.hid HA
        clear HP HA
        have hq : I64 (x.tdiv 37) := by
          obtain ⟨h1, h2⟩ := hi
          unfold I64
          have e := Int.mul_tdiv_add_tmod x 37
          have g1 := Int.tmod_lt_of_pos x (show (0 : Int) < 37 by omega)
          have g2 := Int.lt_tmod_of_pos x (show (0 : Int) < 37 by omega)
          omega
        have hx3 := around_lt (x.tdiv 37) 3 (by omega)
        have HB : ∀ w1, Calls Tryd.prog 15 #[.int .i64 (x.tdiv 37), .int .i64 3] w1 fun e w' => e = .returned (.int .i64 (around (x.tdiv 37) 3 : Int)) ∧ w' = w1 := fun w1 => around_any (x.tdiv 37) 3 hq (by omega) (by omega) w1
        have HBH := Lib.hid HB
        clear HB
        have hgr : a.block < wr.heap.size := Nat.lt_of_lt_of_le hg hbel.size
        have c1 : ∀ o, (wr.alloc o).cell? (a.add k) = some (.int .i64 x) := fun o => by rw [World.cell?_alloc_lt _ _ _ (by rw [add_block]; exact hgr)]; exact hcell
        have c2 : ∀ o1 o2, ((wr.alloc o1).alloc o2).cell? (a.add k) = some (.int .i64 x) := fun o1 o2 => by rw [World.cell?_alloc_lt _ _ _ (by rw [add_block]; simp; omega)]; exact c1 o1
        have t1 : ((wr.alloc (.cells partCells 9)).alloc (.cells #[.string ⟨#[32]⟩, .string ⟨#[10]⟩, .string ⟨#[10, 9]⟩] 9)).cell? ⟨wr.heap.size + 1, around (x.tdiv 37) 3, none⟩ = some (.string (sp (around (x.tdiv 37) 3))) := by
          have := sepCells_cell (wr.alloc (.cells partCells 9)) _ hx3
          simp only [World.size_alloc] at this
          exact this
        have t2 : ((wr.alloc (.cells #[.string ⟨#[32]⟩, .string ⟨#[10]⟩, .string ⟨#[10, 9]⟩] 9)).alloc (.cells partCells 9)).cell? ⟨wr.heap.size, around (x.tdiv 37) 3, none⟩ = some (.string (sp (around (x.tdiv 37) 3))) := by
          rw [World.cell?_alloc_lt _ _ _ (by simp)]
          exact sepCells_cell wr _ hx3
        obtain ⟨hq1, hq2⟩ := hq
        have hr := sp_size (around (x.tdiv 37) 3)
        have g0 : (0 : Int) ≤ (around (x.tdiv 37) 3 : Int) := by omega
        have g1 : (around (x.tdiv 37) 3 : Int) < 3 := by omega
        generalize around (x.tdiv 37) 3 = j at *
        generalize around x 37 = i at *
        generalize sp j = r at *
        generalize pt i = q at *
        have hfit1 : s.size + q.size ≤ 140737488355328 := by omega
        have hfit2 : s.size + q.size + r.size ≤ 140737488355328 := by omega
        have n1 : ¬ ((9223372036854775807 : Int) < (s.size : Int) + (q.size : Int)) := by omega
        have n2 : ¬ ((9223372036854775807 : Int) < (s.size : Int) + (q.size : Int) + (r.size : Int)) := by omega
        have HSZ := Lib.hid (show s.size + q.size + r.size ≤ 19 * (k + 1) by omega)
        clear hfit1 hfit2 hs hp hr ha46
        generalize hy : x.tdiv 37 = y at *
        have hwr : IntKind.i64.wrap y = y := IntWalk.i64_in y ⟨hq1, by omega⟩
        go_wp2_with fail
        rename_i Q1 K1 a1 Q2 h2 K2 a2
        refine Code.wp_mono (Q := Norm (fun a' w' => (∃ t15 t16 t17 t18 t19 t20 t21 t22 t23 t24 t25 t26 t27 t28 t29 t30 t31 t32, a' = { tmps := #[.slice (some a) n c, undef, .string ⟨#[]⟩, .string (s ++ q ++ r), .int .i64 (k : Int), .int .i64 (k : Int), .slice (some a) n c, .int .i64 (n : Int), .bool true, .bool true, .int .i64 (k : Int), .bool true, .bool true, u13, u14, t15, t16, t17, t18, t19, t20, t21, t22, t23, t24, t25, t26, t27, t28, t29, t30, t31, t32, undef], defers := [] }) ∧ Below wr.heap.size wr w')) (fun e a' w' h => ?_) ?_
        · obtain ⟨rfl, h0⟩ := h.out
          obtain ⟨⟨t15, t16, t17, t18, t19, t20, t21, t22, t23, t24, t25, t26, t27, t28, t29, t30, t31, t32, rfl⟩, hb⟩ := h0
          clear h
          have hbel2 := hbel.trans (hb.mono hbel.size)
          clear hb
          go_wp2_with fail
          go_roundw
          case rel => exact ⟨_, k + 1, by omega, by omega, rfl, by go_num, HS2, by rw [ByteArray.size_append, ByteArray.size_append]; have := HSZ.out; omega, hbel2⟩
          case measure => simp [intOf]; omega
        · have hbr := Below.refl wr.heap.size wr
          clear a2 K2 h2 Q2 a1 K1 Q1 HS2 HSZ HS hbel HL HN hi hl24 hlt hk hk24 hg
          refine wp_region_held_drew (S := fun w' => w'.cell? (a.add k) = some (.int .i64 x)) (by kernel_rfl) (by exact hcell) (fun hHeld => ?_)
          try simp only [Act.put, List.setIfInBounds_toArray, List.set_cons_zero, List.set_cons_succ]
          refine wpAnyH_take (i := 0) (oi := { dst := some 15, op := Op.move (Operand.tmp 3), type := 9, pos := "ref.go:149", after := #[], guard := none }) (v := ?_) rfl (by kernel_rfl) (by kernel_rfl) (by kernel_rfl) (fun _ _ _ h => h) (Or.inl ⟨by rfl, ?_⟩) (by assumption) ?_
          rotate_left
          · (intro w hSw; (try dsimp only at hSw); go_simp <;> with_reducible rfl)
          try simp only [Act.put, List.setIfInBounds_toArray, List.set_cons_zero, List.set_cons_succ]
          refine wpAnyH_take (i := 1) (oi := { dst := some 16, op := Op.move (Operand.tmp 0), type := 22, pos := "ref.go:149", after := #[], guard := none }) (v := ?_) rfl (by kernel_rfl) (by kernel_rfl) (by kernel_rfl) (fun _ _ _ h => h) (Or.inl ⟨by rfl, ?_⟩) (by assumption) ?_
          rotate_left
          · (intro w hSw; (try dsimp only at hSw); go_simp <;> with_reducible rfl)
          try simp only [Act.put, List.setIfInBounds_toArray, List.set_cons_zero, List.set_cons_succ]
          refine wpAnyH_take (i := 2) (oi := { dst := some 17, op := Op.move (Operand.tmp 4), type := 3, pos := "ref.go:149", after := #[], guard := none }) (v := ?_) rfl (by kernel_rfl) (by kernel_rfl) (by kernel_rfl) (fun _ _ _ h => h) (Or.inl ⟨by rfl, ?_⟩) (by assumption) ?_
          rotate_left
          · (intro w hSw; (try dsimp only at hSw); go_simp <;> with_reducible rfl)
          try simp only [Act.put, List.setIfInBounds_toArray, List.set_cons_zero, List.set_cons_succ]
          refine wpAnyH_take (i := 3) (oi := { dst := some 18, op := Op.indexAddr 22 (Operand.tmp 16) (Operand.tmp 17), type := 0, pos := "ref.go:149", after := #[{ on := 1, ground := Ground.data }, { on := 2, ground := Ground.data }], guard := none }) (v := ?_) rfl (by kernel_rfl) (by kernel_rfl) (by kernel_rfl) (fun _ _ _ h => h) (Or.inl ⟨by rfl, ?_⟩) (by assumption) ?_
          rotate_left
          · (intro w hSw; (try dsimp only at hSw); go_simp <;> with_reducible rfl)
          try simp only [Act.put, List.setIfInBounds_toArray, List.set_cons_zero, List.set_cons_succ]
          refine wpAnyH_take (i := 4) (oi := { dst := some 19, op := Op.load 3 (Operand.tmp 18), type := 3, pos := "ref.go:149", after := #[{ on := 3, ground := Ground.data }], guard := none }) (v := ?_) rfl (by kernel_rfl) (by kernel_rfl) (by kernel_rfl) (fun _ _ _ h => h) (Or.inl ⟨by rfl, ?_⟩) (by assumption) ?_
          rotate_left
          · (intro w hSw; (try dsimp only at hSw); go_simp <;> with_reducible rfl)
          try simp only [Act.put, List.setIfInBounds_toArray, List.set_cons_zero, List.set_cons_succ]
          refine wpAnyH_take (i := 9) (oi := { dst := some 24, op := Op.move (Operand.tmp 0), type := 22, pos := "ref.go:149", after := #[], guard := none }) (v := ?_) rfl (by kernel_rfl) (by kernel_rfl) (by kernel_rfl) (fun _ _ _ h => h) (Or.inl ⟨by rfl, ?_⟩) (by assumption) ?_
          rotate_left
          · (intro w hSw; (try dsimp only at hSw); go_simp <;> with_reducible rfl)
          try simp only [Act.put, List.setIfInBounds_toArray, List.set_cons_zero, List.set_cons_succ]
          refine wpAnyH_take (i := 10) (oi := { dst := some 25, op := Op.move (Operand.tmp 4), type := 3, pos := "ref.go:149", after := #[], guard := none }) (v := ?_) rfl (by kernel_rfl) (by kernel_rfl) (by kernel_rfl) (fun _ _ _ h => h) (Or.inl ⟨by rfl, ?_⟩) (by assumption) ?_
          rotate_left
          · (intro w hSw; (try dsimp only at hSw); go_simp <;> with_reducible rfl)
          try simp only [Act.put, List.setIfInBounds_toArray, List.set_cons_zero, List.set_cons_succ]
          refine wpAnyH_take (i := 11) (oi := { dst := some 26, op := Op.indexAddr 22 (Operand.tmp 24) (Operand.tmp 25), type := 0, pos := "ref.go:149", after := #[{ on := 9, ground := Ground.data }, { on := 10, ground := Ground.data }], guard := none }) (v := ?_) rfl (by kernel_rfl) (by kernel_rfl) (by kernel_rfl) (fun _ _ _ h => h) (Or.inl ⟨by rfl, ?_⟩) (by assumption) ?_
          rotate_left
          · (intro w hSw; (try dsimp only at hSw); go_simp <;> with_reducible rfl)
          try simp only [Act.put, List.setIfInBounds_toArray, List.set_cons_zero, List.set_cons_succ]
          refine wpAnyH_take (i := 12) (oi := { dst := some 27, op := Op.load 3 (Operand.tmp 26), type := 3, pos := "ref.go:149", after := #[{ on := 11, ground := Ground.data }], guard := none }) (v := ?_) rfl (by kernel_rfl) (by kernel_rfl) (by kernel_rfl) (fun _ _ _ h => h) (Or.inl ⟨by rfl, ?_⟩) (by assumption) ?_
          rotate_left
          · (intro w hSw; (try dsimp only at hSw); go_simp <;> with_reducible rfl)
          try simp only [Act.put, List.setIfInBounds_toArray, List.set_cons_zero, List.set_cons_succ]
          refine wpAnyH_take (i := 13) (oi := { dst := some 28, op := Op.binOp BinOp.quo 3 (Operand.tmp 27) (Operand.const (Value.int IntKind.i64 37)) 3, type := 3, pos := "ref.go:149", after := #[{ on := 12, ground := Ground.data }], guard := none }) (v := ?_) rfl (by kernel_rfl) (by kernel_rfl) (by kernel_rfl) (fun _ _ _ h => h) (Or.inl ⟨by rfl, ?_⟩) (by assumption) ?_
          rotate_left
          · (intro w hSw; (try dsimp only at hSw); go_simp <;> with_reducible rfl)
          try simp only [Act.put, List.setIfInBounds_toArray, List.set_cons_zero, List.set_cons_succ]
          refine wpAnyH_ready (rs := [5, 8]) (by kernel_rfl) (by simp) ?_
          refine AllReadyH.cons (o := { dst := some 20, op := Op.call { callee := Callee.value (Operand.func 15), args := #[Operand.tmp 19, Operand.const (Value.int IntKind.i64 37)], argTypes := #[3, 3] }, type := 3, pos := "ref.go:149", after := #[{ on := 4, ground := Ground.data }], guard := none }) rfl (fun K hK => ?_) ?_
          · go_simp
            (go_at_call 15; go_fit (HAH.out _); rintro e w' ⟨rfl, rfl⟩)
            refine hK.out _ _ ?_ (fun hHeld2 => ?_)
            · (try dsimp only); first | exact hcell | exact c1 _ | exact c2 _ _ | assumption
            clear hK K hHeld; have hHeld := hHeld2; clear hHeld2
            try simp only [Act.put, List.setIfInBounds_toArray, List.set_cons_zero, List.set_cons_succ]
            refine wpAnyH_ready (rs := [6, 8]) (by kernel_rfl) (by simp) ?_
            refine AllReadyH.cons (o := { dst := some 21, op := Op.call { callee := Callee.value (Operand.func 20), args := #[Operand.tmp 20], argTypes := #[3] }, type := 9, pos := "ref.go:149", after := #[{ on := 5, ground := Ground.data }, { on := 5, ground := Ground.chain }], guard := none }) rfl (fun K hK => ?_) ?_
            · go_simp
              (go_at_call 20; go_fit (HPH.out _); rintro e w' ⟨rfl, rfl⟩)
              refine hK.out _ _ ?_ (fun hHeld2 => ?_)
              · (try dsimp only); first | exact hcell | exact c1 _ | exact c2 _ _ | assumption
              clear hK K hHeld; have hHeld := hHeld2; clear hHeld2
              try simp only [Act.put, List.setIfInBounds_toArray, List.set_cons_zero, List.set_cons_succ]
              refine wpAnyH_take (i := 7) (oi := { dst := some 22, op := Op.binOp BinOp.add 9 (Operand.tmp 15) (Operand.tmp 21) 9, type := 9, pos := "ref.go:149", after := #[{ on := 0, ground := Ground.data }, { on := 6, ground := Ground.data }], guard := none }) (v := ?_) rfl (by kernel_rfl) (by kernel_rfl) (by kernel_rfl) (fun _ _ _ h => h) (Or.inl ⟨by rfl, ?_⟩) (by assumption) ?_
              rotate_left
              · (intro w hSw; (try dsimp only at hSw); go_simp; rw [if_neg (by omega)])
              try simp only [Act.put, List.setIfInBounds_toArray, List.set_cons_zero, List.set_cons_succ]
              refine wpAnyH_ready (rs := [8, 14]) (by kernel_rfl) (by simp) ?_
              refine AllReadyH.cons (o := { dst := some 23, op := Op.buildSlice 31 3 #[(0, Operand.const (Value.string { data := #[32] })), (1, Operand.const (Value.string { data := #[10] })), (2, Operand.const (Value.string { data := #[10, 9] }))], type := 31, pos := "ref.go:149", after := #[], guard := none }) rfl (fun K hK => ?_) ?_
              · go_simp
                refine hK.out _ _ ?_ (fun hHeld2 => ?_)
                · (try dsimp only); first | exact hcell | exact c1 _ | exact c2 _ _ | assumption
                clear hK K hHeld; have hHeld := hHeld2; clear hHeld2
                try simp only [Act.put, List.setIfInBounds_toArray, List.set_cons_zero, List.set_cons_succ]
                refine wpAnyH_ready (rs := [14]) (by kernel_rfl) (by simp) ?_
                refine AllReadyH.cons (o := { dst := some 29, op := Op.call { callee := Callee.value (Operand.func 15), args := #[Operand.tmp 28, Operand.const (Value.int IntKind.i64 3)], argTypes := #[3, 3] }, type := 3, pos := "ref.go:149", after := #[{ on := 13, ground := Ground.data }, { on := 6, ground := Ground.chain }], guard := none }) rfl (fun K hK => ?_) ?_
                · go_simp
                  (go_at_call 15; go_fit (HBH.out _); rintro e w' ⟨rfl, rfl⟩)
                  refine hK.out _ _ ?_ (fun hHeld2 => ?_)
                  · (try dsimp only); first | exact hcell | exact c1 _ | exact c2 _ _ | assumption
                  clear hK K hHeld; have hHeld := hHeld2; clear hHeld2
                  try simp only [Act.put, List.setIfInBounds_toArray, List.set_cons_zero, List.set_cons_succ]
                  refine wpAnyH_take (i := 15) (oi := { dst := some 30, op := Op.indexAddr 31 (Operand.tmp 23) (Operand.tmp 29), type := 0, pos := "ref.go:149", after := #[{ on := 8, ground := Ground.data }, { on := 14, ground := Ground.data }], guard := none }) (v := ?_) rfl (by kernel_rfl) (by kernel_rfl) (by kernel_rfl) (fun _ _ _ h => h) (Or.inl ⟨by rfl, ?_⟩) (by assumption) ?_
                  rotate_left
                  · (intro w hSw; (try dsimp only at hSw); go_simp <;> with_reducible rfl)
                  try simp only [Act.put, List.setIfInBounds_toArray, List.set_cons_zero, List.set_cons_succ]
                  refine wpAnyH_ready (rs := [16]) (by kernel_rfl) (by simp) ?_
                  refine AllReadyH.cons (o := { dst := some 31, op := Op.load 9 (Operand.tmp 30), type := 9, pos := "ref.go:149", after := #[{ on := 15, ground := Ground.data }], guard := none }) rfl (fun K hK => ?_) ?_
                  · go_simp
                    refine hK.out _ _ ?_ (fun hHeld2 => ?_)
                    · (try dsimp only); first | exact hcell | exact c1 _ | exact c2 _ _ | assumption
                    clear hK K hHeld; have hHeld := hHeld2; clear hHeld2
                    try simp only [Act.put, List.setIfInBounds_toArray, List.set_cons_zero, List.set_cons_succ]
                    refine wpAnyH_take (i := 17) (oi := { dst := some 32, op := Op.binOp BinOp.add 9 (Operand.tmp 22) (Operand.tmp 31) 9, type := 9, pos := "ref.go:149", after := #[{ on := 7, ground := Ground.data }, { on := 16, ground := Ground.data }], guard := none }) (v := ?_) rfl (by kernel_rfl) (by kernel_rfl) (by kernel_rfl) (fun _ _ _ h => h) (Or.inl ⟨by rfl, ?_⟩) (by assumption) ?_
                    rotate_left
                    · (intro w hSw; (try dsimp only at hSw); go_simp; rw [if_neg (by omega)])
                    try simp only [Act.put, List.setIfInBounds_toArray, List.set_cons_zero, List.set_cons_succ]
                    refine wpAnyH_take (i := 18) (oi := { dst := some 3, op := Op.assign (Operand.tmp 32), type := 9, pos := "ref.go:149", after := #[{ on := 17, ground := Ground.data }, { on := 14, ground := Ground.chain }, { on := 0, ground := Ground.phase }, { on := 1, ground := Ground.phase }, { on := 2, ground := Ground.phase }, { on := 3, ground := Ground.phase }, { on := 4, ground := Ground.phase }, { on := 5, ground := Ground.phase }, { on := 6, ground := Ground.phase }, { on := 7, ground := Ground.phase }, { on := 8, ground := Ground.phase }, { on := 9, ground := Ground.phase }, { on := 10, ground := Ground.phase }, { on := 11, ground := Ground.phase }, { on := 12, ground := Ground.phase }, { on := 13, ground := Ground.phase }, { on := 14, ground := Ground.phase }, { on := 15, ground := Ground.phase }, { on := 16, ground := Ground.phase }, { on := 17, ground := Ground.phase }], guard := none }) (v := ?_) rfl (by kernel_rfl) (by kernel_rfl) (by kernel_rfl) (fun _ _ _ h => h) (Or.inl ⟨by rfl, ?_⟩) (by assumption) ?_
                    rotate_left
                    · (intro w hSw; (try dsimp only at hSw); go_simp <;> with_reducible rfl)
                    try simp only [Act.put, List.setIfInBounds_toArray, List.set_cons_zero, List.set_cons_succ]
                    refine wpAnyH_done (by kernel_rfl) ?_ _
                    exact Norm.mk ⟨⟨_, _, _, _, _, _, _, _, _, _, _, _, _, _, _, _, _, _, rfl⟩, by first | exact ((hbr.alloc (Nat.le_refl _) _).alloc (by simp) _).drew | exact bdn ((hbr.alloc (Nat.le_refl _) _).alloc (by simp) _) _⟩
                  exact AllReadyH.nil
                exact AllReadyH.nil
              refine AllReadyH.cons (o := { dst := some 29, op := Op.call { callee := Callee.value (Operand.func 15), args := #[Operand.tmp 28, Operand.const (Value.int IntKind.i64 3)], argTypes := #[3, 3] }, type := 3, pos := "ref.go:149", after := #[{ on := 13, ground := Ground.data }, { on := 6, ground := Ground.chain }], guard := none }) rfl (fun K hK => ?_) ?_
              · go_simp
                (go_at_call 15; go_fit (HBH.out _); rintro e w' ⟨rfl, rfl⟩)
                refine hK.out _ _ ?_ (fun hHeld2 => ?_)
                · (try dsimp only); first | exact hcell | exact c1 _ | exact c2 _ _ | assumption
                clear hK K hHeld; have hHeld := hHeld2; clear hHeld2
                try simp only [Act.put, List.setIfInBounds_toArray, List.set_cons_zero, List.set_cons_succ]
                refine wpAnyH_ready (rs := [8]) (by kernel_rfl) (by simp) ?_
                refine AllReadyH.cons (o := { dst := some 23, op := Op.buildSlice 31 3 #[(0, Operand.const (Value.string { data := #[32] })), (1, Operand.const (Value.string { data := #[10] })), (2, Operand.const (Value.string { data := #[10, 9] }))], type := 31, pos := "ref.go:149", after := #[], guard := none }) rfl (fun K hK => ?_) ?_
                · go_simp
                  refine hK.out _ _ ?_ (fun hHeld2 => ?_)
                  · (try dsimp only); first | exact hcell | exact c1 _ | exact c2 _ _ | assumption
                  clear hK K hHeld; have hHeld := hHeld2; clear hHeld2
                  try simp only [Act.put, List.setIfInBounds_toArray, List.set_cons_zero, List.set_cons_succ]
                  refine wpAnyH_take (i := 15) (oi := { dst := some 30, op := Op.indexAddr 31 (Operand.tmp 23) (Operand.tmp 29), type := 0, pos := "ref.go:149", after := #[{ on := 8, ground := Ground.data }, { on := 14, ground := Ground.data }], guard := none }) (v := ?_) rfl (by kernel_rfl) (by kernel_rfl) (by kernel_rfl) (fun _ _ _ h => h) (Or.inl ⟨by rfl, ?_⟩) (by assumption) ?_
                  rotate_left
                  · (intro w hSw; (try dsimp only at hSw); go_simp <;> with_reducible rfl)
                  try simp only [Act.put, List.setIfInBounds_toArray, List.set_cons_zero, List.set_cons_succ]
                  refine wpAnyH_ready (rs := [16]) (by kernel_rfl) (by simp) ?_
                  refine AllReadyH.cons (o := { dst := some 31, op := Op.load 9 (Operand.tmp 30), type := 9, pos := "ref.go:149", after := #[{ on := 15, ground := Ground.data }], guard := none }) rfl (fun K hK => ?_) ?_
                  · go_simp
                    refine hK.out _ _ ?_ (fun hHeld2 => ?_)
                    · (try dsimp only); first | exact hcell | exact c1 _ | exact c2 _ _ | assumption
                    clear hK K hHeld; have hHeld := hHeld2; clear hHeld2
                    try simp only [Act.put, List.setIfInBounds_toArray, List.set_cons_zero, List.set_cons_succ]
                    refine wpAnyH_take (i := 17) (oi := { dst := some 32, op := Op.binOp BinOp.add 9 (Operand.tmp 22) (Operand.tmp 31) 9, type := 9, pos := "ref.go:149", after := #[{ on := 7, ground := Ground.data }, { on := 16, ground := Ground.data }], guard := none }) (v := ?_) rfl (by kernel_rfl) (by kernel_rfl) (by kernel_rfl) (fun _ _ _ h => h) (Or.inl ⟨by rfl, ?_⟩) (by assumption) ?_
                    rotate_left
                    · (intro w hSw; (try dsimp only at hSw); go_simp; rw [if_neg (by omega)])
                    try simp only [Act.put, List.setIfInBounds_toArray, List.set_cons_zero, List.set_cons_succ]
                    refine wpAnyH_take (i := 18) (oi := { dst := some 3, op := Op.assign (Operand.tmp 32), type := 9, pos := "ref.go:149", after := #[{ on := 17, ground := Ground.data }, { on := 14, ground := Ground.chain }, { on := 0, ground := Ground.phase }, { on := 1, ground := Ground.phase }, { on := 2, ground := Ground.phase }, { on := 3, ground := Ground.phase }, { on := 4, ground := Ground.phase }, { on := 5, ground := Ground.phase }, { on := 6, ground := Ground.phase }, { on := 7, ground := Ground.phase }, { on := 8, ground := Ground.phase }, { on := 9, ground := Ground.phase }, { on := 10, ground := Ground.phase }, { on := 11, ground := Ground.phase }, { on := 12, ground := Ground.phase }, { on := 13, ground := Ground.phase }, { on := 14, ground := Ground.phase }, { on := 15, ground := Ground.phase }, { on := 16, ground := Ground.phase }, { on := 17, ground := Ground.phase }], guard := none }) (v := ?_) rfl (by kernel_rfl) (by kernel_rfl) (by kernel_rfl) (fun _ _ _ h => h) (Or.inl ⟨by rfl, ?_⟩) (by assumption) ?_
                    rotate_left
                    · (intro w hSw; (try dsimp only at hSw); go_simp <;> with_reducible rfl)
                    try simp only [Act.put, List.setIfInBounds_toArray, List.set_cons_zero, List.set_cons_succ]
                    refine wpAnyH_done (by kernel_rfl) ?_ _
                    exact Norm.mk ⟨⟨_, _, _, _, _, _, _, _, _, _, _, _, _, _, _, _, _, _, rfl⟩, by first | exact ((hbr.alloc (Nat.le_refl _) _).alloc (by simp) _).drew | exact bdn ((hbr.alloc (Nat.le_refl _) _).alloc (by simp) _) _⟩
                  exact AllReadyH.nil
                exact AllReadyH.nil
              exact AllReadyH.nil
            refine AllReadyH.cons (o := { dst := some 23, op := Op.buildSlice 31 3 #[(0, Operand.const (Value.string { data := #[32] })), (1, Operand.const (Value.string { data := #[10] })), (2, Operand.const (Value.string { data := #[10, 9] }))], type := 31, pos := "ref.go:149", after := #[], guard := none }) rfl (fun K hK => ?_) ?_
            · go_simp
              refine hK.out _ _ ?_ (fun hHeld2 => ?_)
              · (try dsimp only); first | exact hcell | exact c1 _ | exact c2 _ _ | assumption
              clear hK K hHeld; have hHeld := hHeld2; clear hHeld2
              try simp only [Act.put, List.setIfInBounds_toArray, List.set_cons_zero, List.set_cons_succ]
              refine wpAnyH_ready (rs := [6]) (by kernel_rfl) (by simp) ?_
              refine AllReadyH.cons (o := { dst := some 21, op := Op.call { callee := Callee.value (Operand.func 20), args := #[Operand.tmp 20], argTypes := #[3] }, type := 9, pos := "ref.go:149", after := #[{ on := 5, ground := Ground.data }, { on := 5, ground := Ground.chain }], guard := none }) rfl (fun K hK => ?_) ?_
              · go_simp
                (go_at_call 20; go_fit (HPH.out _); rintro e w' ⟨rfl, rfl⟩)
                refine hK.out _ _ ?_ (fun hHeld2 => ?_)
                · (try dsimp only); first | exact hcell | exact c1 _ | exact c2 _ _ | assumption
                clear hK K hHeld; have hHeld := hHeld2; clear hHeld2
                try simp only [Act.put, List.setIfInBounds_toArray, List.set_cons_zero, List.set_cons_succ]
                refine wpAnyH_take (i := 7) (oi := { dst := some 22, op := Op.binOp BinOp.add 9 (Operand.tmp 15) (Operand.tmp 21) 9, type := 9, pos := "ref.go:149", after := #[{ on := 0, ground := Ground.data }, { on := 6, ground := Ground.data }], guard := none }) (v := ?_) rfl (by kernel_rfl) (by kernel_rfl) (by kernel_rfl) (fun _ _ _ h => h) (Or.inl ⟨by rfl, ?_⟩) (by assumption) ?_
                rotate_left
                · (intro w hSw; (try dsimp only at hSw); go_simp; rw [if_neg (by omega)])
                try simp only [Act.put, List.setIfInBounds_toArray, List.set_cons_zero, List.set_cons_succ]
                refine wpAnyH_ready (rs := [14]) (by kernel_rfl) (by simp) ?_
                refine AllReadyH.cons (o := { dst := some 29, op := Op.call { callee := Callee.value (Operand.func 15), args := #[Operand.tmp 28, Operand.const (Value.int IntKind.i64 3)], argTypes := #[3, 3] }, type := 3, pos := "ref.go:149", after := #[{ on := 13, ground := Ground.data }, { on := 6, ground := Ground.chain }], guard := none }) rfl (fun K hK => ?_) ?_
                · go_simp
                  (go_at_call 15; go_fit (HBH.out _); rintro e w' ⟨rfl, rfl⟩)
                  refine hK.out _ _ ?_ (fun hHeld2 => ?_)
                  · (try dsimp only); first | exact hcell | exact c1 _ | exact c2 _ _ | assumption
                  clear hK K hHeld; have hHeld := hHeld2; clear hHeld2
                  try simp only [Act.put, List.setIfInBounds_toArray, List.set_cons_zero, List.set_cons_succ]
                  refine wpAnyH_take (i := 15) (oi := { dst := some 30, op := Op.indexAddr 31 (Operand.tmp 23) (Operand.tmp 29), type := 0, pos := "ref.go:149", after := #[{ on := 8, ground := Ground.data }, { on := 14, ground := Ground.data }], guard := none }) (v := ?_) rfl (by kernel_rfl) (by kernel_rfl) (by kernel_rfl) (fun _ _ _ h => h) (Or.inl ⟨by rfl, ?_⟩) (by assumption) ?_
                  rotate_left
                  · (intro w hSw; (try dsimp only at hSw); go_simp <;> with_reducible rfl)
                  try simp only [Act.put, List.setIfInBounds_toArray, List.set_cons_zero, List.set_cons_succ]
                  refine wpAnyH_ready (rs := [16]) (by kernel_rfl) (by simp) ?_
                  refine AllReadyH.cons (o := { dst := some 31, op := Op.load 9 (Operand.tmp 30), type := 9, pos := "ref.go:149", after := #[{ on := 15, ground := Ground.data }], guard := none }) rfl (fun K hK => ?_) ?_
                  · go_simp
                    refine hK.out _ _ ?_ (fun hHeld2 => ?_)
                    · (try dsimp only); first | exact hcell | exact c1 _ | exact c2 _ _ | assumption
                    clear hK K hHeld; have hHeld := hHeld2; clear hHeld2
                    try simp only [Act.put, List.setIfInBounds_toArray, List.set_cons_zero, List.set_cons_succ]
                    refine wpAnyH_take (i := 17) (oi := { dst := some 32, op := Op.binOp BinOp.add 9 (Operand.tmp 22) (Operand.tmp 31) 9, type := 9, pos := "ref.go:149", after := #[{ on := 7, ground := Ground.data }, { on := 16, ground := Ground.data }], guard := none }) (v := ?_) rfl (by kernel_rfl) (by kernel_rfl) (by kernel_rfl) (fun _ _ _ h => h) (Or.inl ⟨by rfl, ?_⟩) (by assumption) ?_
                    rotate_left
                    · (intro w hSw; (try dsimp only at hSw); go_simp; rw [if_neg (by omega)])
                    try simp only [Act.put, List.setIfInBounds_toArray, List.set_cons_zero, List.set_cons_succ]
                    refine wpAnyH_take (i := 18) (oi := { dst := some 3, op := Op.assign (Operand.tmp 32), type := 9, pos := "ref.go:149", after := #[{ on := 17, ground := Ground.data }, { on := 14, ground := Ground.chain }, { on := 0, ground := Ground.phase }, { on := 1, ground := Ground.phase }, { on := 2, ground := Ground.phase }, { on := 3, ground := Ground.phase }, { on := 4, ground := Ground.phase }, { on := 5, ground := Ground.phase }, { on := 6, ground := Ground.phase }, { on := 7, ground := Ground.phase }, { on := 8, ground := Ground.phase }, { on := 9, ground := Ground.phase }, { on := 10, ground := Ground.phase }, { on := 11, ground := Ground.phase }, { on := 12, ground := Ground.phase }, { on := 13, ground := Ground.phase }, { on := 14, ground := Ground.phase }, { on := 15, ground := Ground.phase }, { on := 16, ground := Ground.phase }, { on := 17, ground := Ground.phase }], guard := none }) (v := ?_) rfl (by kernel_rfl) (by kernel_rfl) (by kernel_rfl) (fun _ _ _ h => h) (Or.inl ⟨by rfl, ?_⟩) (by assumption) ?_
                    rotate_left
                    · (intro w hSw; (try dsimp only at hSw); go_simp <;> with_reducible rfl)
                    try simp only [Act.put, List.setIfInBounds_toArray, List.set_cons_zero, List.set_cons_succ]
                    refine wpAnyH_done (by kernel_rfl) ?_ _
                    exact Norm.mk ⟨⟨_, _, _, _, _, _, _, _, _, _, _, _, _, _, _, _, _, _, rfl⟩, by first | exact ((hbr.alloc (Nat.le_refl _) _).alloc (by simp) _).drew | exact bdn ((hbr.alloc (Nat.le_refl _) _).alloc (by simp) _) _⟩
                  exact AllReadyH.nil
                exact AllReadyH.nil
              exact AllReadyH.nil
            exact AllReadyH.nil
          refine AllReadyH.cons (o := { dst := some 23, op := Op.buildSlice 31 3 #[(0, Operand.const (Value.string { data := #[32] })), (1, Operand.const (Value.string { data := #[10] })), (2, Operand.const (Value.string { data := #[10, 9] }))], type := 31, pos := "ref.go:149", after := #[], guard := none }) rfl (fun K hK => ?_) ?_
          · go_simp
            refine hK.out _ _ ?_ (fun hHeld2 => ?_)
            · (try dsimp only); first | exact hcell | exact c1 _ | exact c2 _ _ | assumption
            clear hK K hHeld; have hHeld := hHeld2; clear hHeld2
            try simp only [Act.put, List.setIfInBounds_toArray, List.set_cons_zero, List.set_cons_succ]
            refine wpAnyH_ready (rs := [5]) (by kernel_rfl) (by simp) ?_
            refine AllReadyH.cons (o := { dst := some 20, op := Op.call { callee := Callee.value (Operand.func 15), args := #[Operand.tmp 19, Operand.const (Value.int IntKind.i64 37)], argTypes := #[3, 3] }, type := 3, pos := "ref.go:149", after := #[{ on := 4, ground := Ground.data }], guard := none }) rfl (fun K hK => ?_) ?_
            · go_simp
              (go_at_call 15; go_fit (HAH.out _); rintro e w' ⟨rfl, rfl⟩)
              refine hK.out _ _ ?_ (fun hHeld2 => ?_)
              · (try dsimp only); first | exact hcell | exact c1 _ | exact c2 _ _ | assumption
              clear hK K hHeld; have hHeld := hHeld2; clear hHeld2
              try simp only [Act.put, List.setIfInBounds_toArray, List.set_cons_zero, List.set_cons_succ]
              refine wpAnyH_ready (rs := [6]) (by kernel_rfl) (by simp) ?_
              refine AllReadyH.cons (o := { dst := some 21, op := Op.call { callee := Callee.value (Operand.func 20), args := #[Operand.tmp 20], argTypes := #[3] }, type := 9, pos := "ref.go:149", after := #[{ on := 5, ground := Ground.data }, { on := 5, ground := Ground.chain }], guard := none }) rfl (fun K hK => ?_) ?_
              · go_simp
                (go_at_call 20; go_fit (HPH.out _); rintro e w' ⟨rfl, rfl⟩)
                refine hK.out _ _ ?_ (fun hHeld2 => ?_)
                · (try dsimp only); first | exact hcell | exact c1 _ | exact c2 _ _ | assumption
                clear hK K hHeld; have hHeld := hHeld2; clear hHeld2
                try simp only [Act.put, List.setIfInBounds_toArray, List.set_cons_zero, List.set_cons_succ]
                refine wpAnyH_take (i := 7) (oi := { dst := some 22, op := Op.binOp BinOp.add 9 (Operand.tmp 15) (Operand.tmp 21) 9, type := 9, pos := "ref.go:149", after := #[{ on := 0, ground := Ground.data }, { on := 6, ground := Ground.data }], guard := none }) (v := ?_) rfl (by kernel_rfl) (by kernel_rfl) (by kernel_rfl) (fun _ _ _ h => h) (Or.inl ⟨by rfl, ?_⟩) (by assumption) ?_
                rotate_left
                · (intro w hSw; (try dsimp only at hSw); go_simp; rw [if_neg (by omega)])
                try simp only [Act.put, List.setIfInBounds_toArray, List.set_cons_zero, List.set_cons_succ]
                refine wpAnyH_ready (rs := [14]) (by kernel_rfl) (by simp) ?_
                refine AllReadyH.cons (o := { dst := some 29, op := Op.call { callee := Callee.value (Operand.func 15), args := #[Operand.tmp 28, Operand.const (Value.int IntKind.i64 3)], argTypes := #[3, 3] }, type := 3, pos := "ref.go:149", after := #[{ on := 13, ground := Ground.data }, { on := 6, ground := Ground.chain }], guard := none }) rfl (fun K hK => ?_) ?_
                · go_simp
                  (go_at_call 15; go_fit (HBH.out _); rintro e w' ⟨rfl, rfl⟩)
                  refine hK.out _ _ ?_ (fun hHeld2 => ?_)
                  · (try dsimp only); first | exact hcell | exact c1 _ | exact c2 _ _ | assumption
                  clear hK K hHeld; have hHeld := hHeld2; clear hHeld2
                  try simp only [Act.put, List.setIfInBounds_toArray, List.set_cons_zero, List.set_cons_succ]
                  refine wpAnyH_take (i := 15) (oi := { dst := some 30, op := Op.indexAddr 31 (Operand.tmp 23) (Operand.tmp 29), type := 0, pos := "ref.go:149", after := #[{ on := 8, ground := Ground.data }, { on := 14, ground := Ground.data }], guard := none }) (v := ?_) rfl (by kernel_rfl) (by kernel_rfl) (by kernel_rfl) (fun _ _ _ h => h) (Or.inl ⟨by rfl, ?_⟩) (by assumption) ?_
                  rotate_left
                  · (intro w hSw; (try dsimp only at hSw); go_simp <;> with_reducible rfl)
                  try simp only [Act.put, List.setIfInBounds_toArray, List.set_cons_zero, List.set_cons_succ]
                  refine wpAnyH_ready (rs := [16]) (by kernel_rfl) (by simp) ?_
                  refine AllReadyH.cons (o := { dst := some 31, op := Op.load 9 (Operand.tmp 30), type := 9, pos := "ref.go:149", after := #[{ on := 15, ground := Ground.data }], guard := none }) rfl (fun K hK => ?_) ?_
                  · go_simp
                    refine hK.out _ _ ?_ (fun hHeld2 => ?_)
                    · (try dsimp only); first | exact hcell | exact c1 _ | exact c2 _ _ | assumption
                    clear hK K hHeld; have hHeld := hHeld2; clear hHeld2
                    try simp only [Act.put, List.setIfInBounds_toArray, List.set_cons_zero, List.set_cons_succ]
                    refine wpAnyH_take (i := 17) (oi := { dst := some 32, op := Op.binOp BinOp.add 9 (Operand.tmp 22) (Operand.tmp 31) 9, type := 9, pos := "ref.go:149", after := #[{ on := 7, ground := Ground.data }, { on := 16, ground := Ground.data }], guard := none }) (v := ?_) rfl (by kernel_rfl) (by kernel_rfl) (by kernel_rfl) (fun _ _ _ h => h) (Or.inl ⟨by rfl, ?_⟩) (by assumption) ?_
                    rotate_left
                    · (intro w hSw; (try dsimp only at hSw); go_simp; rw [if_neg (by omega)])
                    try simp only [Act.put, List.setIfInBounds_toArray, List.set_cons_zero, List.set_cons_succ]
                    refine wpAnyH_take (i := 18) (oi := { dst := some 3, op := Op.assign (Operand.tmp 32), type := 9, pos := "ref.go:149", after := #[{ on := 17, ground := Ground.data }, { on := 14, ground := Ground.chain }, { on := 0, ground := Ground.phase }, { on := 1, ground := Ground.phase }, { on := 2, ground := Ground.phase }, { on := 3, ground := Ground.phase }, { on := 4, ground := Ground.phase }, { on := 5, ground := Ground.phase }, { on := 6, ground := Ground.phase }, { on := 7, ground := Ground.phase }, { on := 8, ground := Ground.phase }, { on := 9, ground := Ground.phase }, { on := 10, ground := Ground.phase }, { on := 11, ground := Ground.phase }, { on := 12, ground := Ground.phase }, { on := 13, ground := Ground.phase }, { on := 14, ground := Ground.phase }, { on := 15, ground := Ground.phase }, { on := 16, ground := Ground.phase }, { on := 17, ground := Ground.phase }], guard := none }) (v := ?_) rfl (by kernel_rfl) (by kernel_rfl) (by kernel_rfl) (fun _ _ _ h => h) (Or.inl ⟨by rfl, ?_⟩) (by assumption) ?_
                    rotate_left
                    · (intro w hSw; (try dsimp only at hSw); go_simp <;> with_reducible rfl)
                    try simp only [Act.put, List.setIfInBounds_toArray, List.set_cons_zero, List.set_cons_succ]
                    refine wpAnyH_done (by kernel_rfl) ?_ _
                    exact Norm.mk ⟨⟨_, _, _, _, _, _, _, _, _, _, _, _, _, _, _, _, _, _, rfl⟩, by first | exact ((hbr.alloc (Nat.le_refl _) _).alloc (by simp) _).drew | exact bdn ((hbr.alloc (Nat.le_refl _) _).alloc (by simp) _) _⟩
                  exact AllReadyH.nil
                exact AllReadyH.nil
              exact AllReadyH.nil
            exact AllReadyH.nil
          exact AllReadyH.nil
      · go_wp2
        go_ret
        exact ⟨by rw [clean_end HS.out (.inl (by omega)) (by omega)]; rfl, hbel⟩
    · go_wp2
      go_ret
      exact ⟨by rw [clean_end HS.out (.inr (by rw [HN.out]; omega)) (by omega)]; rfl, hbel⟩

end Go.Proofs.YtgmlghmlmfbfjaaDoor
