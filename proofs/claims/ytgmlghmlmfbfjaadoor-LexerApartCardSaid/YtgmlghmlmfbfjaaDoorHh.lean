/- LexerApart, walked. -/
import Derived.Test.YtgmlghmlmfbfjaaDoorHg
import Derived.Deep.RegionHeld3
namespace Go.Proofs.YtgmlghmlmfbfjaaDoor
open Go Go.RowKit

theorem rowOf_news (a : List Lx.Tok) (w : World) (g : Nat) (h : ∀ j u, (rowOf a)[j]? = some u → w.cell? ⟨g, j, none⟩ = some u) : ∀ j u, (rowOf a)[j]? = some u → w.cell? ((⟨g, 0, none⟩ : Addr).add j) = some u := by
  intro j u hu
  have hadd : (⟨g, 0, none⟩ : Addr).add j = ⟨g, j, none⟩ := by unfold Addr.add; split <;> simp_all
  rw [hadd]; exact h j u hu
theorem cleanB_list (l : List Int) : (⟨(cleanL l).toArray⟩ : ByteArray).data.toList = cleanL l := rfl
theorem spaced_step (f : Nat → ByteArray) (T : List Lx.Tok) (k : Nat) (h : k < T.length) (s : ByteArray) (L : List UInt8) (hs : s.data.toList ++ Lx.spaced (fun i => (f i).data.toList) k (T.drop k) = L) :
    (s ++ f k ++ ⟨(T.getD k d0).text.toArray⟩).data.toList ++ Lx.spaced (fun i => (f i).data.toList) (k + 1) (T.drop (k + 1)) = L := by
  rw [getD_tok T k h] at hs
  rw [← hs]
  simp [Lx.spaced, ByteArray.data_append]

set_option maxRecDepth 100000 in
set_option maxHeartbeats 8000000 in
theorem lexerApart_walk (l m how : List Int) (v vm vh : Value) (w : World) (hl : IntSl w v l) (hm : IntSl w vm m) (hh : IntSl w vh how) (hR : RangeOk w) :
    Calls Tryd.prog 7 #[v, vm, vh] w fun e w' => e = .returned (.bool true) ∧ Below w.heap.size w w' := by
  have HL := Lib.hid hl
  have HM := Lib.hid hm
  have HH := Lib.hid hh
  have HR := Lib.hid hR
  have hcs := cleanB_size l
  have hcm := cleanB_size m
  obtain ⟨⟨T1, hT1⟩, hcl⟩ := clean_lex l
  obtain ⟨⟨T2, hT2⟩, -⟩ := clean_lex m
  obtain ⟨T3, hT3, hc3⟩ := Lx.joined hT1 hcl hT2
  have HC : Hid (∀ W, IntSl W v l → Calls Tryd.prog 12 #[v] W fun e w' => e = .returned (.string ⟨(cleanL l).toArray⟩) ∧ Below W.heap.size W w') := Lib.hid (fun W h => clean_any l v W h)
  have HC2 : Hid (∀ W, IntSl W vm m → Calls Tryd.prog 12 #[vm] W fun e w' => e = .returned (.string ⟨(cleanL m).toArray⟩) ∧ Below W.heap.size W w') := Lib.hid (fun W h => clean_any m vm W h)
  have hT1' : Lx.Lexes 0 (⟨(cleanL l).toArray⟩ : ByteArray).data.toList T1 0 0 := hT1
  have hT2' : Lx.Lexes 0 (⟨(cleanL m).toArray⟩ : ByteArray).data.toList T2 0 0 := hT2
  have hT3' : Lx.Lexes 0 ((⟨(cleanL l).toArray⟩ : ByteArray) ++ (⟨#[10]⟩ : ByteArray) ++ (⟨(cleanL m).toArray⟩ : ByteArray)).data.toList T3 0 0 := by
    rw [ByteArray.data_append, ByteArray.data_append, Array.toList_append, Array.toList_append]; exact hT3
  obtain ⟨T4, hT4, hc4⟩ := Lx.spaced_lex (fun i => (asep (pickN how i 4)).data.toList) (fun i => (asep_gap _ (pickN_lt how i 4 (by omega))).1) T1 hT1.good 0 0
  have hsl := Lx.spaced_len (fun i => (asep (pickN how i 4)).data.toList) 3 (fun i => (asep_gap _ (pickN_lt how i 4 (by omega))).2) T1 0
  have htot : Lx.total T1 ≤ 456 := Nat.le_trans hT1'.total_le hcs
  have htl : T1.length ≤ 456 := Nat.le_trans hT1'.len hcs
  have htl2 : T2.length ≤ 456 := Nat.le_trans hT2'.len hcm
  clear hl hm hh hR hT1 hT2 hT3 hcl
  generalize (⟨(cleanL l).toArray⟩ : ByteArray) = s1 at *
  generalize (⟨(cleanL m).toArray⟩ : ByteArray) = s2 at *
  have hsz3 : (s1 ++ (⟨#[10]⟩ : ByteArray) ++ s2).size ≤ 1000 := by
    have h1 : (⟨#[10]⟩ : ByteArray).size = 1 := rfl
    rw [ByteArray.size_append, ByteArray.size_append]; omega
  have K1 : Hid (∀ W, RangeOk W → Calls Tryd.prog 16 #[.string s1] W (ResPost 38 (T1, 0, 0) W)) := Lib.hid (fun W h => tokens_ok s1 hT1' (by omega) W h)
  have K2 : Hid (∀ W, RangeOk W → Calls Tryd.prog 16 #[.string s2] W (ResPost 38 (T2, 0, 0) W)) := Lib.hid (fun W h => tokens_ok s2 hT2' (by omega) W h)
  have K3 : Hid (∀ W, RangeOk W → Calls Tryd.prog 16 #[.string (s1 ++ (⟨#[10]⟩ : ByteArray) ++ s2)] W (ResPost 38 (T3, 0, 0) W)) := Lib.hid (fun W h => tokens_ok _ hT3' (by omega) W h)
  obtain ⟨L, hL⟩ : ∃ L, Lx.spaced (fun i => (asep (pickN how i 4)).data.toList) 0 T1 = L := ⟨_, rfl⟩
  rw [hL] at hT4 hsl
  have hLs : L.length ≤ 1824 := by omega
  have K4 : Hid (∀ s : ByteArray, s.data.toList = L → ∀ W, RangeOk W → Calls Tryd.prog 16 #[.string s] W (ResPost 38 (T4, 0, 0) W)) := Lib.hid (fun s hs W h => by
    subst hs; exact tokens_ok s hT4 (by simpa using Nat.le_trans hLs (by omega)) W h)
  have HLL := Lib.hid hL
  have HC3 := Lib.hid hc3
  have HC4 := Lib.hid hc4
  have htb : ∀ k, (T1.getD k d0).text.length ≤ 456 := fun k => by
    rcases Nat.lt_or_ge k T1.length with h | h
    · have h1 := hT1'.places (T1.getD k d0) (by rw [List.getD_eq_getElem?_getD, List.getElem?_eq_getElem h]; exact List.getElem_mem h)
      have h2 : s1.data.toList.length = s1.size := by simp
      omega
    · rw [List.getD_eq_getElem?_getD, List.getElem?_eq_none h]; exact Nat.zero_le _
  have HTB := Lib.hid htb
  clear hT1' hT2' hT3' hc3 hc4 hT4 hL hsl htot htb
  have hfit1 : s1.size + 1 ≤ 140737488355328 := by omega
  have hfit2 : s1.size + 1 + s2.size ≤ 140737488355328 := by omega
  go_enter Tryd.func7, Tryd.ntmps7
  go_wp2_with fail
  refine (HC.out w HL.out).mono ?_
  rintro e w1 ⟨rfl, hb1⟩
  have B1 := Lib.hid hb1
  clear hb1
  go_wp2_with fail
  refine (K1.out w1 (HR.out.below B1.out)).mono ?_
  rintro e w2 ⟨v2, rfl, own2, hb2⟩
  have B2 := Lib.hid (B1.out.trans (hb2.mono B1.out.size))
  clear B1 K1 HC hb2
  obtain ⟨A1, c1, rfl, hc1⟩ := (TokSl.of_own own2).form
  have TS1 := Lib.hid (TokSl.of_own own2)
  clear own2
  simp only
  go_wp2_with fail
  refine (HC2.out w2 (HM.out.below B2.out)).mono ?_
  rintro e w3 ⟨rfl, hb3⟩
  have D3 := Lib.hid hb3
  have B3 := Lib.hid (B2.out.trans (hb3.mono B2.out.size))
  clear hb3
  go_wp2_with fail
  refine (K2.out w3 (HR.out.below B3.out)).mono ?_
  rintro e w4 ⟨v4, rfl, own4, hb4⟩
  have D4 := Lib.hid (D3.out.trans (hb4.mono D3.out.size))
  have B4 := Lib.hid (B2.out.trans (D4.out.mono B2.out.size))
  clear B3 D3 K2 hb4
  obtain ⟨A2, c2, rfl, hc2⟩ := (TokSl.of_own own4).form
  have TS2 := Lib.hid (TokSl.of_own own4)
  clear own4
  simp only
  go_wp2_with fail
  refine (HC2.out w4 (HM.out.below B4.out)).mono ?_
  rintro e w5 ⟨rfl, hb5⟩
  have E5 := Lib.hid hb5
  have B5 := Lib.hid (B4.out.trans (hb5.mono B4.out.size))
  clear hb5
  go_wp2_with fail
  go_fit (K3.out w5 (HR.out.below B5.out))
  rintro e w6 ⟨v6, rfl, own6, hb6⟩
  have E6 := Lib.hid (E5.out.trans (hb6.mono E5.out.size))
  have B6 := Lib.hid (B4.out.trans (E6.out.mono B4.out.size))
  clear B5 E5 K3 hb6 HC2
  obtain ⟨A3, c3, rfl, hc3⟩ := (TokSl.of_own own6).form
  have TS3 := Lib.hid (TokSl.of_own own6)
  clear own6
  simp only
  obtain ⟨n, hn⟩ : ∃ n, T1.length = n := ⟨_, rfl⟩
  rw [hn] at TS1 hc1 htl ⊢
  have HN := Lib.hid hn
  clear hn hcs hcm hsz3 hfit1 hfit2
  go_wp2_with fail
  go_loopw [17, 18] (fun t u wr => ∃ (s : ByteArray) (k : Nat), k ≤ n ∧ t = .string s ∧ u = .int .i64 k ∧ s.size ≤ 459 * k ∧ Hid (s.data.toList ++ Lx.spaced (fun i => (asep (pickN how i 4)).data.toList) k (T1.drop k) = L) ∧ Hid (Below w6.heap.size w6 wr)) (fun _ u _ => n - (intOf u).toNat)
  case atStart => exact ⟨⟨#[]⟩, 0, by omega, rfl, rfl, Nat.le_refl 0, Lib.hid (by rw [List.drop_zero]; exact HLL.out), Lib.hid (Below.refl _ _)⟩
  case round =>
    obtain ⟨s, k, hk, rfl, rfl, hs, HS, HB⟩ := hrel
    have BW : Hid (Below w.heap.size w wr) := Lib.hid (B6.out.trans (HB.out.mono B6.out.size))
    by_cases hlt : k < n
    · have hbr := HB.out
      have HPK : Hid (∀ W, Below wr.heap.size wr W → Calls Tryd.prog 17 #[vh, .int .i64 (k : Int), .int .i64 4] W fun e w' => e = .returned (.int .i64 (pickN how k 4 : Int)) ∧ w' = W) :=
        Lib.hid (fun W h => pick_any how vh k 4 W (HH.out.below (BW.out.trans (h.mono BW.out.size))) (by omega) (by omega) (by omega))
      have hj := pickN_lt how k 4 (by omega)
      have hj3 := (asep_gap _ hj).2
      have t1 : (wr.alloc (.cells #[.string ⟨#[32]⟩, .string ⟨#[10]⟩, .string ⟨#[32, 9]⟩, .string ⟨#[35, 120, 10]⟩] 9)).cell? ⟨wr.heap.size, pickN how k 4, none⟩ = some (.string (asep (pickN how k 4))) := asepCells_cell wr _ hj
      have HS2 := Lib.hid (spaced_step (fun i => asep (pickN how i 4)) T1 k (by rw [HN.out]; exact hlt) s L HS.out)
      have htk : (⟨(T1.getD k d0).text.toArray⟩ : ByteArray).size ≤ 456 := HTB.out k
      have TSr := TS1.out.below (D4.out.trans (E6.out.mono D4.out.size) |>.trans (HB.out.mono (Nat.le_trans D4.out.size E6.out.size)))
      obtain ⟨g, rfl, hg, -, -, -, hcell⟩ := tok_cells TSr k hlt
      clear TSr HS hbr
      generalize pickN how k 4 = j at *
      generalize (⟨(T1.getD k d0).text.toArray⟩ : ByteArray) = q at *
      generalize asep j = r at *
      have f0 : (0 : Int) ≤ (k : Int) := by omega
      have f1 : (k : Int) < (n : Int) := by omega
      have g0 : (0 : Int) ≤ (j : Int) := by omega
      have g1 : (j : Int) < 4 := by omega
      have n1 : ¬ ((9223372036854775807 : Int) < (s.size : Int) + (r.size : Int)) := by omega
      have n2 : ¬ ((9223372036854775807 : Int) < (s.size : Int) + (r.size : Int) + (q.size : Int)) := by omega
      have hfit1 : s.size + r.size ≤ 140737488355328 := by omega
      have hfit2 : s.size + r.size + q.size ≤ 140737488355328 := by omega
      have c0 : ∀ o, (wr.alloc o).cell? ⟨g, k * 4 + 3, none⟩ = some (.string q) := fun o => by rw [World.cell?_alloc_lt _ _ _ hg]; exact hcell
      have hb0 := Below.refl wr.heap.size wr
      go_wp2_with fail
      refine wp_region_held_drew (S := (fun w' => w'.cell? ⟨g, k * 4 + 3, none⟩ = some (.string q))) (by kernel_rfl) ?_ (fun hHeld => ?_)
      · ((try dsimp only); first | exact hcell | exact c0 _ | go_keep)
      refine wpAnyH_take (i := 0) (oi := { dst := some 53, op := Op.move (Operand.tmp 17), type := 9, pos := "law.go:119", after := #[], guard := none }) (v := ?_) rfl (by kernel_rfl) (by kernel_rfl) (by kernel_rfl) (fun _ _ _ h => h) (Or.inl ⟨by rfl, ?_⟩) (by assumption) ?_
      rotate_left
      · (intro w hSw; (try dsimp only at hSw); go_simp; with_reducible rfl)
      try simp only [Act.put, List.setIfInBounds_toArray, List.set_cons_zero, List.set_cons_succ]
      refine wpAnyH_take (i := 2) (oi := { dst := some 55, op := Op.move (Operand.tmp 2), type := 22, pos := "law.go:119", after := #[], guard := none }) (v := ?_) rfl (by kernel_rfl) (by kernel_rfl) (by kernel_rfl) (fun _ _ _ h => h) (Or.inl ⟨by rfl, ?_⟩) (by assumption) ?_
      rotate_left
      · (intro w hSw; (try dsimp only at hSw); go_simp; with_reducible rfl)
      try simp only [Act.put, List.setIfInBounds_toArray, List.set_cons_zero, List.set_cons_succ]
      refine wpAnyH_take (i := 3) (oi := { dst := some 56, op := Op.move (Operand.tmp 18), type := 3, pos := "law.go:119", after := #[], guard := none }) (v := ?_) rfl (by kernel_rfl) (by kernel_rfl) (by kernel_rfl) (fun _ _ _ h => h) (Or.inl ⟨by rfl, ?_⟩) (by assumption) ?_
      rotate_left
      · (intro w hSw; (try dsimp only at hSw); go_simp; with_reducible rfl)
      try simp only [Act.put, List.setIfInBounds_toArray, List.set_cons_zero, List.set_cons_succ]
      refine wpAnyH_take (i := 8) (oi := { dst := some 61, op := Op.move (Operand.tmp 8), type := 33, pos := "law.go:119", after := #[], guard := none }) (v := ?_) rfl (by kernel_rfl) (by kernel_rfl) (by kernel_rfl) (fun _ _ _ h => h) (Or.inl ⟨by rfl, ?_⟩) (by assumption) ?_
      rotate_left
      · (intro w hSw; (try dsimp only at hSw); go_simp; with_reducible rfl)
      try simp only [Act.put, List.setIfInBounds_toArray, List.set_cons_zero, List.set_cons_succ]
      refine wpAnyH_take (i := 9) (oi := { dst := some 62, op := Op.move (Operand.tmp 18), type := 3, pos := "law.go:119", after := #[], guard := none }) (v := ?_) rfl (by kernel_rfl) (by kernel_rfl) (by kernel_rfl) (fun _ _ _ h => h) (Or.inl ⟨by rfl, ?_⟩) (by assumption) ?_
      rotate_left
      · (intro w hSw; (try dsimp only at hSw); go_simp; with_reducible rfl)
      try simp only [Act.put, List.setIfInBounds_toArray, List.set_cons_zero, List.set_cons_succ]
      refine wpAnyH_take (i := 10) (oi := { dst := some 63, op := Op.indexAddr 33 (Operand.tmp 61) (Operand.tmp 62), type := 0, pos := "law.go:119", after := #[{ on := 8, ground := Ground.data }, { on := 9, ground := Ground.data }], guard := none }) (v := ?_) rfl (by kernel_rfl) (by kernel_rfl) (by kernel_rfl) (fun _ _ _ h => h) (Or.inl ⟨by rfl, ?_⟩) (by assumption) ?_
      rotate_left
      · (intro w hSw; (try dsimp only at hSw); go_simp; with_reducible rfl)
      try simp only [Act.put, List.setIfInBounds_toArray, List.set_cons_zero, List.set_cons_succ]
      refine wpAnyH_take (i := 11) (oi := { dst := some 64, op := Op.fieldAddr 38 (Operand.tmp 63) 3, type := 0, pos := "law.go:119", after := #[{ on := 10, ground := Ground.data }], guard := none }) (v := ?_) rfl (by kernel_rfl) (by kernel_rfl) (by kernel_rfl) (fun _ _ _ h => h) (Or.inl ⟨by rfl, ?_⟩) (by assumption) ?_
      rotate_left
      · (intro w hSw; (try dsimp only at hSw); go_simp; with_reducible rfl)
      try simp only [Act.put, List.setIfInBounds_toArray, List.set_cons_zero, List.set_cons_succ]
      refine wpAnyH_take (i := 12) (oi := { dst := some 65, op := Op.load 9 (Operand.tmp 64), type := 9, pos := "law.go:119", after := #[{ on := 11, ground := Ground.data }], guard := none }) (v := ?_) rfl (by kernel_rfl) (by kernel_rfl) (by kernel_rfl) (fun _ _ _ h => h) (Or.inl ⟨by rfl, ?_⟩) (by assumption) ?_
      rotate_left
      · (intro w hSw; (try dsimp only at hSw); go_simp; with_reducible rfl)
      try simp only [Act.put, List.setIfInBounds_toArray, List.set_cons_zero, List.set_cons_succ]
      refine wpAnyH_ready (rs := [1, 4]) (by kernel_rfl) (by simp) ?_
      refine AllReadyH.cons (o := { dst := some 54, op := Op.buildSlice 31 4 #[(0, Operand.const (Value.string { data := #[32] })), (1, Operand.const (Value.string { data := #[10] })), (2, Operand.const (Value.string { data := #[32, 9] })), (3, Operand.const (Value.string { data := #[35, 120, 10] }))], type := 31, pos := "law.go:119", after := #[], guard := none }) rfl (fun K hK => ?_) ?_
      · go_simp
        refine hK.out _ _ ?_ (fun hHeld2 => ?_)
        · ((try dsimp only); first | exact hcell | exact c0 _ | go_keep)
        clear hK K hHeld; have hHeld := hHeld2; clear hHeld2
        try simp only [Act.put, List.setIfInBounds_toArray, List.set_cons_zero, List.set_cons_succ]
        refine wpAnyH_ready (rs := [4]) (by kernel_rfl) (by simp) ?_
        refine AllReadyH.cons (o := { dst := some 57, op := Op.call { callee := Callee.value (Operand.func 17), args := #[Operand.tmp 55, Operand.tmp 56, Operand.const (Value.int IntKind.i64 4)], argTypes := #[22, 3, 3] }, type := 3, pos := "law.go:119", after := #[{ on := 2, ground := Ground.data }, { on := 3, ground := Ground.data }], guard := none }) rfl (fun K hK => ?_) ?_
        · go_simp
          first | (go_at_call 17; refine (HPK.out _ (by first | exact hb0.drew | exact (hb0.alloc (Nat.le_refl _) _).drew)).mono ?_; rintro e w' ⟨rfl, rfl⟩)
          go_wp2_with fail
          refine hK.out _ _ ?_ (fun hHeld2 => ?_)
          · ((try dsimp only); first | exact hcell | exact c0 _ | go_keep)
          clear hK K hHeld; have hHeld := hHeld2; clear hHeld2
          try simp only [Act.put, List.setIfInBounds_toArray, List.set_cons_zero, List.set_cons_succ]
          refine wpAnyH_take (i := 5) (oi := { dst := some 58, op := Op.indexAddr 31 (Operand.tmp 54) (Operand.tmp 57), type := 0, pos := "law.go:119", after := #[{ on := 1, ground := Ground.data }, { on := 4, ground := Ground.data }], guard := none }) (v := ?_) rfl (by kernel_rfl) (by kernel_rfl) (by kernel_rfl) (fun _ _ _ h => h) (Or.inl ⟨by rfl, ?_⟩) (by assumption) ?_
          rotate_left
          · (intro w hSw; (try dsimp only at hSw); go_simp; with_reducible rfl)
          try simp only [Act.put, List.setIfInBounds_toArray, List.set_cons_zero, List.set_cons_succ]
          refine wpAnyH_ready (rs := [6]) (by kernel_rfl) (by simp) ?_
          refine AllReadyH.cons (o := { dst := some 59, op := Op.load 9 (Operand.tmp 58), type := 9, pos := "law.go:119", after := #[{ on := 5, ground := Ground.data }], guard := none }) rfl (fun K hK => ?_) ?_
          · go_simp
            refine hK.out _ _ ?_ (fun hHeld2 => ?_)
            · ((try dsimp only); first | exact hcell | exact c0 _ | go_keep)
            clear hK K hHeld; have hHeld := hHeld2; clear hHeld2
            try simp only [Act.put, List.setIfInBounds_toArray, List.set_cons_zero, List.set_cons_succ]
            refine wpAnyH_take (i := 7) (oi := { dst := some 60, op := Op.binOp BinOp.add 9 (Operand.tmp 53) (Operand.tmp 59) 9, type := 9, pos := "law.go:119", after := #[{ on := 0, ground := Ground.data }, { on := 6, ground := Ground.data }], guard := none }) (v := ?_) rfl (by kernel_rfl) (by kernel_rfl) (by kernel_rfl) (fun _ _ _ h => h) (Or.inl ⟨by rfl, ?_⟩) (by assumption) ?_
            rotate_left
            · (intro w hSw; (try dsimp only at hSw); go_simp; rw [if_neg (by omega)])
            try simp only [Act.put, List.setIfInBounds_toArray, List.set_cons_zero, List.set_cons_succ]
            refine wpAnyH_take (i := 13) (oi := { dst := some 66, op := Op.binOp BinOp.add 9 (Operand.tmp 60) (Operand.tmp 65) 9, type := 9, pos := "law.go:119", after := #[{ on := 7, ground := Ground.data }, { on := 12, ground := Ground.data }], guard := none }) (v := ?_) rfl (by kernel_rfl) (by kernel_rfl) (by kernel_rfl) (fun _ _ _ h => h) (Or.inl ⟨by rfl, ?_⟩) (by assumption) ?_
            rotate_left
            · (intro w hSw; (try dsimp only at hSw); go_simp; rw [if_neg (by omega)])
            try simp only [Act.put, List.setIfInBounds_toArray, List.set_cons_zero, List.set_cons_succ]
            refine wpAnyH_take (i := 14) (oi := { dst := some 17, op := Op.assign (Operand.tmp 66), type := 9, pos := "law.go:119", after := #[{ on := 13, ground := Ground.data }, { on := 4, ground := Ground.chain }, { on := 0, ground := Ground.phase }, { on := 1, ground := Ground.phase }, { on := 2, ground := Ground.phase }, { on := 3, ground := Ground.phase }, { on := 4, ground := Ground.phase }, { on := 5, ground := Ground.phase }, { on := 6, ground := Ground.phase }, { on := 7, ground := Ground.phase }, { on := 8, ground := Ground.phase }, { on := 9, ground := Ground.phase }, { on := 10, ground := Ground.phase }, { on := 11, ground := Ground.phase }, { on := 12, ground := Ground.phase }, { on := 13, ground := Ground.phase }], guard := none }) (v := ?_) rfl (by kernel_rfl) (by kernel_rfl) (by kernel_rfl) (fun _ _ _ h => h) (Or.inl ⟨by rfl, ?_⟩) (by assumption) ?_
            rotate_left
            · (intro w hSw; (try dsimp only at hSw); go_simp; with_reducible rfl)
            try simp only [Act.put, List.setIfInBounds_toArray, List.set_cons_zero, List.set_cons_succ]
            refine wpAnyH_done (by kernel_rfl) ?_ _
            ((go_wp2_with fail; go_roundw; (case rel => exact ⟨_, k + 1, by omega, rfl, by go_num, by rw [ByteArray.size_append, ByteArray.size_append]; omega, HS2, Lib.hid ((HB.out.alloc HB.out.size _).drew)⟩); (case measure => simp [intOf]; omega)))
          exact AllReadyH.nil
        exact AllReadyH.nil
      refine AllReadyH.cons (o := { dst := some 57, op := Op.call { callee := Callee.value (Operand.func 17), args := #[Operand.tmp 55, Operand.tmp 56, Operand.const (Value.int IntKind.i64 4)], argTypes := #[22, 3, 3] }, type := 3, pos := "law.go:119", after := #[{ on := 2, ground := Ground.data }, { on := 3, ground := Ground.data }], guard := none }) rfl (fun K hK => ?_) ?_
      · go_simp
        first | (go_at_call 17; refine (HPK.out _ (by first | exact hb0.drew | exact (hb0.alloc (Nat.le_refl _) _).drew)).mono ?_; rintro e w' ⟨rfl, rfl⟩)
        go_wp2_with fail
        refine hK.out _ _ ?_ (fun hHeld2 => ?_)
        · ((try dsimp only); first | exact hcell | exact c0 _ | go_keep)
        clear hK K hHeld; have hHeld := hHeld2; clear hHeld2
        try simp only [Act.put, List.setIfInBounds_toArray, List.set_cons_zero, List.set_cons_succ]
        refine wpAnyH_ready (rs := [1]) (by kernel_rfl) (by simp) ?_
        refine AllReadyH.cons (o := { dst := some 54, op := Op.buildSlice 31 4 #[(0, Operand.const (Value.string { data := #[32] })), (1, Operand.const (Value.string { data := #[10] })), (2, Operand.const (Value.string { data := #[32, 9] })), (3, Operand.const (Value.string { data := #[35, 120, 10] }))], type := 31, pos := "law.go:119", after := #[], guard := none }) rfl (fun K hK => ?_) ?_
        · go_simp
          refine hK.out _ _ ?_ (fun hHeld2 => ?_)
          · ((try dsimp only); first | exact hcell | exact c0 _ | go_keep)
          clear hK K hHeld; have hHeld := hHeld2; clear hHeld2
          try simp only [Act.put, List.setIfInBounds_toArray, List.set_cons_zero, List.set_cons_succ]
          refine wpAnyH_take (i := 5) (oi := { dst := some 58, op := Op.indexAddr 31 (Operand.tmp 54) (Operand.tmp 57), type := 0, pos := "law.go:119", after := #[{ on := 1, ground := Ground.data }, { on := 4, ground := Ground.data }], guard := none }) (v := ?_) rfl (by kernel_rfl) (by kernel_rfl) (by kernel_rfl) (fun _ _ _ h => h) (Or.inl ⟨by rfl, ?_⟩) (by assumption) ?_
          rotate_left
          · (intro w hSw; (try dsimp only at hSw); go_simp; with_reducible rfl)
          try simp only [Act.put, List.setIfInBounds_toArray, List.set_cons_zero, List.set_cons_succ]
          refine wpAnyH_ready (rs := [6]) (by kernel_rfl) (by simp) ?_
          refine AllReadyH.cons (o := { dst := some 59, op := Op.load 9 (Operand.tmp 58), type := 9, pos := "law.go:119", after := #[{ on := 5, ground := Ground.data }], guard := none }) rfl (fun K hK => ?_) ?_
          · go_simp
            refine hK.out _ _ ?_ (fun hHeld2 => ?_)
            · ((try dsimp only); first | exact hcell | exact c0 _ | go_keep)
            clear hK K hHeld; have hHeld := hHeld2; clear hHeld2
            try simp only [Act.put, List.setIfInBounds_toArray, List.set_cons_zero, List.set_cons_succ]
            refine wpAnyH_take (i := 7) (oi := { dst := some 60, op := Op.binOp BinOp.add 9 (Operand.tmp 53) (Operand.tmp 59) 9, type := 9, pos := "law.go:119", after := #[{ on := 0, ground := Ground.data }, { on := 6, ground := Ground.data }], guard := none }) (v := ?_) rfl (by kernel_rfl) (by kernel_rfl) (by kernel_rfl) (fun _ _ _ h => h) (Or.inl ⟨by rfl, ?_⟩) (by assumption) ?_
            rotate_left
            · (intro w hSw; (try dsimp only at hSw); go_simp; rw [if_neg (by omega)])
            try simp only [Act.put, List.setIfInBounds_toArray, List.set_cons_zero, List.set_cons_succ]
            refine wpAnyH_take (i := 13) (oi := { dst := some 66, op := Op.binOp BinOp.add 9 (Operand.tmp 60) (Operand.tmp 65) 9, type := 9, pos := "law.go:119", after := #[{ on := 7, ground := Ground.data }, { on := 12, ground := Ground.data }], guard := none }) (v := ?_) rfl (by kernel_rfl) (by kernel_rfl) (by kernel_rfl) (fun _ _ _ h => h) (Or.inl ⟨by rfl, ?_⟩) (by assumption) ?_
            rotate_left
            · (intro w hSw; (try dsimp only at hSw); go_simp; rw [if_neg (by omega)])
            try simp only [Act.put, List.setIfInBounds_toArray, List.set_cons_zero, List.set_cons_succ]
            refine wpAnyH_take (i := 14) (oi := { dst := some 17, op := Op.assign (Operand.tmp 66), type := 9, pos := "law.go:119", after := #[{ on := 13, ground := Ground.data }, { on := 4, ground := Ground.chain }, { on := 0, ground := Ground.phase }, { on := 1, ground := Ground.phase }, { on := 2, ground := Ground.phase }, { on := 3, ground := Ground.phase }, { on := 4, ground := Ground.phase }, { on := 5, ground := Ground.phase }, { on := 6, ground := Ground.phase }, { on := 7, ground := Ground.phase }, { on := 8, ground := Ground.phase }, { on := 9, ground := Ground.phase }, { on := 10, ground := Ground.phase }, { on := 11, ground := Ground.phase }, { on := 12, ground := Ground.phase }, { on := 13, ground := Ground.phase }], guard := none }) (v := ?_) rfl (by kernel_rfl) (by kernel_rfl) (by kernel_rfl) (fun _ _ _ h => h) (Or.inl ⟨by rfl, ?_⟩) (by assumption) ?_
            rotate_left
            · (intro w hSw; (try dsimp only at hSw); go_simp; with_reducible rfl)
            try simp only [Act.put, List.setIfInBounds_toArray, List.set_cons_zero, List.set_cons_succ]
            refine wpAnyH_done (by kernel_rfl) ?_ _
            ((go_wp2_with fail; go_roundw; (case rel => exact ⟨_, k + 1, by omega, rfl, by go_num, by rw [ByteArray.size_append, ByteArray.size_append]; omega, HS2, Lib.hid ((HB.out.alloc HB.out.size _).drew)⟩); (case measure => simp [intOf]; omega)))
          exact AllReadyH.nil
        exact AllReadyH.nil
      exact AllReadyH.nil
    · have hkn : k = n := by omega
      have HE : Hid (s.data.toList = L) := Lib.hid (by
        have h1 := HS.out
        rw [List.drop_eq_nil_of_le (by rw [HN.out]; omega)] at h1
        simpa [Lx.spaced] using h1)
      clear HS hkn
      go_wp2_with fail
      refine (K4.out s HE.out wr (HR.out.below BW.out)).mono ?_
      rintro e w7 ⟨v7, rfl, own7, hb7⟩
      have D7 := Lib.hid (HB.out.trans (hb7.mono HB.out.size))
      have TS3r := Lib.hid (TS3.out.below D7.out)
      have TS2r := Lib.hid (TS2.out.below (E6.out.trans (D7.out.mono E6.out.size)))
      have TS1r := Lib.hid (TS1.out.below ((D4.out.trans (E6.out.mono D4.out.size)).trans (D7.out.mono (Nat.le_trans D4.out.size E6.out.size))))
      have B7 := Lib.hid (B6.out.trans (D7.out.mono B6.out.size))
      clear TS1 TS2 TS3 HB BW D7 hb7 K4 HE
      obtain ⟨A4, c4, rfl, hc4⟩ := (TokSl.of_own own7).form
      have TS4 := Lib.hid (TokSl.of_own own7)
      clear own7
      simp only
      have h3l : T3.length = n + T2.length := by
        have h1 := congrArg List.length HC3.out
        rw [List.length_map, List.length_map, List.length_append, HN.out] at h1; exact h1
      have h4l : T4.length = n := by
        have h1 := congrArg List.length HC4.out
        rw [List.length_map, List.length_map, HN.out] at h1; exact h1
      rw [h4l] at hc4 TS4
      rw [h3l] at hc3 TS3r
      have HL3 := Lib.hid h3l
      have HL4 := Lib.hid h4l
      rw [h3l, h4l]
      clear h3l h4l
      obtain ⟨n2, hn2⟩ : ∃ n2, T2.length = n2 := ⟨_, rfl⟩
      rw [hn2] at hc2 TS2r htl2 hc3 TS3r HL3 ⊢
      have HN2 := Lib.hid hn2
      clear hn2
      obtain ⟨i0, hi0, hz0, hz1, hz2⟩ := info_parts Tryd.info57
      go_wp2_with fail
      refine (tokens19 T3 A3 (n + n2) c3 w7 TS3r.out HL3.out (by omega) hc3).mono ?_
      rintro e w8 ⟨v8, rfl, own8, hb8⟩
      go_wp2_with fail
      refine (tokens19 T1 A1 n c1 w8 (TS1r.out.below hb8) HN.out (by omega) hc1).mono ?_
      rintro e w9 ⟨v9, rfl, own9, hb9⟩
      have hb89 := hb8.trans (hb9.mono hb8.size)
      go_wp2_with fail
      refine (tokens19 T2 A2 n2 c2 w9 (TS2r.out.below hb89) HN2.out (by omega) hc2).mono ?_
      rintro e w10 ⟨v10, rfl, own10, hb10⟩
      have hb810 := hb89.trans (hb10.mono hb89.size)
      have X8 := Lib.hid (TokSl.of_own (ts := T3) (by rw [HL3.out]; exact own8))
      have X9 := Lib.hid (own_below own9 hb10)
      have X10 := Lib.hid own10
      have B10a := Lib.hid hb8
      have S9 := Lib.hid (hb9.mono (Nat.le_refl w8.heap.size))
      have hB8 : w8.heap.size ≤ w10.heap.size := Nat.le_trans hb9.size hb10.size
      have HB98 := Lib.hid (hb9.trans (hb10.mono hb9.size))
      clear own8 own9 own10 hb8 hb9 hb89 hb10 hb810
      go_wp2_with (at_builtin; refine wpList_append_two rfl _ _ rfl w8.heap.size w9.heap.size v9 v10 n n2 (rowOf T1) (rowOf T2) rfl rfl X9.out X10.out (cells_one T2) (by omega) hB8 ?_; intro v11 w11 own11 hgrow)
      have HB118 := Lib.hid (HB98.out.grown hgrow hB8 (fun j hj => (X9.out.lt j hj).1))
      have TB11 : TokSl w11 v11 (T1 ++ T2) := TokSl.of_own (by rw [List.length_append, HN.out, HN2.out, rowOf_append]; exact own11)
      clear own11 hgrow X9 X10 HB98 S9
      have X8b := X8.out.below HB118.out
      obtain ⟨A8, c8, rfl, hc8⟩ := X8b.form
      obtain ⟨A11, c11, rfl, hc11⟩ := TB11.form
      have hl12 : (T1 ++ T2).length = n + n2 := by rw [List.length_append, HN.out, HN2.out]
      rw [hl12] at TB11 hc11 ⊢
      rw [HL3.out] at X8b hc8 ⊢
      have HSM := Lib.hid (same_true T3 (T1 ++ T2) false A8 A11 (n + n2) c8 c11 w11 X8b TB11 (by omega) hc8 hc11 (fun k _ => ⟨(core_at HC3.out k).1, (core_at HC3.out k).2.1, (core_at HC3.out k).2.2, fun h => by cases h⟩))
      clear X8 X8b TB11 hl12
      refine HSM.out.mono ?_
      rintro e w12 ⟨rfl, q, rfl⟩
      have B11 : Hid (Below w7.heap.size w7 (w11.drewN q)) := Lib.hid (bdn (B10a.out.trans (HB118.out.mono B10a.out.size)) _)
      clear HSM HB118
      obtain ⟨w13, hw13⟩ : ∃ w13, w11.drewN q = w13 := ⟨_, rfl⟩
      rw [hw13] at B11 ⊢
      clear hw13
      go_wp2_with fail
      refine (tokens19 T4 A4 n c4 w13 (TS4.out.below B11.out) HL4.out (by omega) hc4).mono ?_
      rintro e w14 ⟨v14, rfl, own14, hb14⟩
      have TS1s := TS1r.out.below (B11.out.trans (hb14.mono B11.out.size))
      go_wp2_with fail
      refine (tokens19 T1 A1 n c1 w14 TS1s HN.out (by omega) hc1).mono ?_
      rintro e w15 ⟨v15, rfl, own15, hb15⟩
      have Y14 := (TokSl.of_own (ts := T4) (by rw [HL4.out]; exact own14)).below hb15
      have Y15 := TokSl.of_own (ts := T1) (by rw [HN.out]; exact own15)
      have B15 := Lib.hid (B11.out.trans ((hb14.trans (hb15.mono hb14.size)).mono B11.out.size))
      clear own14 own15 hb14 hb15 B11 TS1s
      obtain ⟨A14, c14, rfl, hc14⟩ := Y14.form
      obtain ⟨A15, c15, rfl, hc15⟩ := Y15.form
      rw [HL4.out] at Y14 hc14 ⊢
      rw [HN.out] at Y15 hc15 ⊢
      have HSM := Lib.hid (same_true T4 T1 false A14 A15 n c14 c15 w15 Y14 Y15 (by omega) hc14 hc15 (fun k _ => ⟨(core_at HC4.out k).1, (core_at HC4.out k).2.1, (core_at HC4.out k).2.2, fun h => by cases h⟩))
      clear Y14 Y15
      go_wp2_with fail
      refine HSM.out.mono ?_
      rintro e w16 ⟨rfl, q, rfl⟩
      have B16 : Hid (Below w.heap.size w (w15.drewN q)) := Lib.hid (bdn (B7.out.trans (B15.out.mono B7.out.size)) _)
      go_wp2_with fail
      refine (lives_any _ (HR.out.below B16.out)).mono ?_
      rintro e w17 ⟨rfl, hb17⟩
      have B17 := Lib.hid (B16.out.trans (hb17.mono B16.out.size))
      clear hb17
      go_wp2_with fail
      go_ret
      exact ⟨rfl, B17.out⟩

theorem lexerApart_any (l : List Int) (v : Value) (m : List Int) (vm : Value) (how : List Int) (vh : Value) (w : World) (hl : IntSl w v l) (hm : IntSl w vm m) (hh : IntSl w vh how) (hR : RangeOk w) :
    Calls Tryd.prog 7 #[v, vm, vh] w fun e w' => e = .returned (.bool true) ∧ Below w.heap.size w w' := lexerApart_walk l m how v vm vh w hl hm hh hR

end Go.Proofs.YtgmlghmlmfbfjaaDoor
