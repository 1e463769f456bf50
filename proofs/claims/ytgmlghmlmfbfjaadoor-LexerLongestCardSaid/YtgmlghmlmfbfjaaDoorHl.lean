/- LexerLongest, walked. -/
import Derived.Test.YtgmlghmlmfbfjaaDoorHk
import Derived.Test.YtgmlghmlmfbfjaaDoorHe
import Derived.Lib.ConvBytes
import Derived.Deep.RegionHeld3
namespace Go.Proofs.YtgmlghmlmfbfjaaDoor
open Go Go.RowKit

/-- A row of a text's bytes. -/
def RowOk (W : World) (N : Nat) (s : ByteArray) : Prop := N < W.heap.size ∧ ∀ k, k < s.size → W.cell? ⟨N, k, none⟩ = some (.int .u8 (s.data.toList.getD k 0).toNat)
theorem bytes_below (W : World) (s : ByteArray) : Below W.heap.size W (Lib.bytesWorld W 5 s) :=
  ⟨rfl, rfl, rfl, by rw [Lib.bytesWorld_size]; omega, fun j hj => Lib.bytesWorld_at_old W 5 s j hj⟩
theorem RowOk.below {W W' : World} {N : Nat} {s : ByteArray} (h : RowOk W N s) (hb : Below W.heap.size W W') : RowOk W' N s :=
  ⟨Nat.lt_of_lt_of_le h.1 hb.size, fun k hk => (hb.cell (p := ⟨N, k, none⟩) h.1).trans (h.2 k hk)⟩
theorem RowOk.conv (W : World) (s : ByteArray) : RowOk (Lib.bytesWorld W 5 s) W.heap.size s :=
  ⟨by rw [Lib.bytesWorld_size]; omega, fun k hk => Lib.bytesWorld_cell W 5 s k hk⟩
theorem RowOk.step {W : World} {N : Nat} {s : ByteArray} (h : RowOk W N s) (s' : ByteArray) : RowOk (Lib.bytesWorld W 5 s') N s := h.below (bytes_below W s')
theorem hash_row (s : ByteArray) (hs : s.size ≤ 8192) (N c : Nat) (W : World) (h : RowOk W N s) :
    Calls Tryd.prog 21 #[.string ⟨#[116]⟩, .slice (some ⟨N, 0, none⟩) s.size c] W fun e W' => e = .returned (.int .u64 (bytesF [116] s.data.toList)) ∧ Below W.heap.size W W' := by
  have hl : s.data.toList.length = s.size := by simp
  have h1 := bytes_any ⟨#[116]⟩ (by decide) s.data.toList (by omega) (.slice (some ⟨N, 0, none⟩) s.size c) W ⟨some ⟨N, 0, none⟩, c, by rw [hl], fun _ => ⟨N, rfl, h.1, fun k hk => by
    rw [h.2 k (by omega), List.getD_eq_getElem?_getD, List.getElem?_eq_getElem hk]; rfl⟩⟩
  exact h1

theorem pair_bytes {T : List Lx.Tok} {l : List UInt8} (hx : Lx.Lexes 0 l T 0 0) (i : Nat) (hi : i + 1 < T.length) (h : (T.getD i d0).at_ + (⟨(T.getD i d0).text.toArray⟩ : ByteArray).size = (T.getD (i + 1) d0).at_) :
    ∃ t1 t2 : Lx.Tok, Lx.Lexes 0 ((⟨(T.getD i d0).text.toArray⟩ : ByteArray) ++ (⟨(T.getD (i + 1) d0).text.toArray⟩ : ByteArray)).data.toList [t1, t2] 0 0 ∧ (⟨t1.text.toArray⟩ : ByteArray) = ⟨(T.getD i d0).text.toArray⟩ ∧ (⟨t2.text.toArray⟩ : ByteArray) = ⟨(T.getD (i + 1) d0).text.toArray⟩ := by
  have e1 : T.getD i d0 = T[i] := by rw [List.getD_eq_getElem?_getD, List.getElem?_eq_getElem (by omega)]; rfl
  have e2 : T.getD (i + 1) d0 = T[i + 1] := by rw [List.getD_eq_getElem?_getD, List.getElem?_eq_getElem hi]; rfl
  rw [e1, e2] at h ⊢
  obtain ⟨t1, t2, h1, h2, h3⟩ := hx.pair i hi h
  refine ⟨t1, t2, ?_, by rw [h2], by rw [h3]⟩
  rw [ByteArray.data_append, Array.toList_append]; exact h1

set_option maxRecDepth 100000 in
set_option maxHeartbeats 8000000 in
theorem lexerLongest_any (l : List Int) (v : Value) (w : World) (hl : IntSl w v l) (hR : RangeOk w) :
    Calls Tryd.prog 9 #[v] w fun e w' => e = .returned (.bool true) ∧ Below w.heap.size w w' := by
  have HR := Lib.hid hR
  obtain ⟨A, c, rfl, hc, hm⟩ := hl.form
  generalize hn : l.length = n at *
  have HL := Lib.hid hl
  clear hl hn hR
  unfold maxLen at hm
  go_enter Tryd.func9, Tryd.ntmps9
  go_wp2_with fail
  go_loopw [3, 4] (fun v t wr => ∃ (s : ByteArray) (k : Nat), k ≤ n ∧ k ≤ 24 ∧ v = .string s ∧ t = .int .i64 k ∧ s.size ≤ 17 * k ∧ Hid (Below w.heap.size w wr)) (fun _ t _ => n - (intOf t).toNat)
  case atStart => exact ⟨⟨#[]⟩, 0, by omega, by omega, rfl, rfl, Nat.le_refl 0, Lib.hid (Below.refl _ _)⟩
  case round =>
    obtain ⟨s, k, hk, hk24, rfl, rfl, hs, HB⟩ := hrel
    by_cases hlt : k < n ∧ k < 24
    · obtain ⟨hlt, hl24⟩ := hlt
      obtain ⟨hi, a, rfl, hg, hcell'⟩ := int_cell HL.out k hlt
      have hcell := (HB.out.cell (p := a.add k) (by rw [add_block]; exact hg)).trans hcell'
      clear hcell'
      have f0 : (0 : Int) ≤ (k : Int) := by omega
      have f1 : (k : Int) < (n : Int) := by omega
      have HA := Lib.hid (fun w1 => around_any (l.getD k 0) 31 hi (by omega) (by omega) w1)
      have hx := around_lt (l.getD k 0) 31 (by omega)
      have HP := Lib.hid (fun w1 => part_any (around (l.getD k 0) 31) (by unfold I64; omega) w1)
      have hp := pt_size (around (around (l.getD k 0) 31) 46)
      generalize pt (around (around (l.getD k 0) 31) 46) = q at *
      generalize around (l.getD k 0) 31 = y at *
      generalize l.getD k 0 = x at *
      have hfit : s.size + q.size ≤ 140737488355328 := by omega
      go_wp2_with (first | (go_at_call 15; refine (HA.out _).mono ?_; rintro e w' ⟨rfl, rfl⟩) | (go_at_call 20; refine (HP.out _).mono ?_; rintro e w' ⟨rfl, rfl⟩))
      go_roundw
      case rel => exact ⟨_, k + 1, by omega, by omega, rfl, by go_num, by rw [ByteArray.size_append]; omega, Lib.hid (HB.out.alloc HB.out.size _)⟩
      case measure => simp [intOf]; omega
    · have hs408 : s.size ≤ 408 := by omega
      obtain ⟨T, p, e, hx⟩ := lexes_of s.data.toList
      have herr := hx.err
      have hTl : T.length ≤ s.size := by simpa using hx.len
      have HX := Lib.hid hx
      have HT := Lib.hid (tokens_lex s hx (by omega) wr (HR.out.below HB.out))
      have htx : ∀ i, (T.getD i d0).at_ + (T.getD i d0).text.length ≤ 408 := fun i => by
        rcases Nat.lt_or_ge i T.length with h | h
        · have h1 := hx.places (T.getD i d0) (by rw [List.getD_eq_getElem?_getD, List.getElem?_eq_getElem h]; exact List.getElem_mem h)
          have h2 : s.data.toList.length = s.size := by simp
          omega
        · rw [List.getD_eq_getElem?_getD, List.getElem?_eq_none h]; exact Nat.zero_le _
      have HTX := Lib.hid htx
      clear hx htx
      have hxit : (decide ((k : Int) < (n : Int)) && decide ((k : Int) < 24)) = false := by
        rw [Bool.and_eq_false_iff]
        rcases Nat.lt_or_ge k n with h | h
        · exact .inr (decide_eq_false (by omega))
        · exact .inl (decide_eq_false (by omega))
      by_cases hkn : k < n
      all_goals
        go_wp2_with fail
        refine HT.out.mono ?_
        rintro e1 w2 ⟨v2, rfl, hown, hb2⟩
        have B2 := Lib.hid (HB.out.trans (hb2.mono HB.out.size))
        clear hb2 HT
        simp only
        rcases herr with rfl | rfl | rfl
        · have hp := HX.out.zero rfl
          subst hp
          have hown' : w2.ownsRow wr.heap.size 38 4 v2 T.length (rowOf T) := hown
          obtain ⟨A2, c2, rfl, hc2⟩ := (TokSl.of_own hown').form
          have TS := Lib.hid (TokSl.of_own hown')
          clear hown hown'
          obtain ⟨N, hN⟩ : ∃ N, T.length = N := ⟨_, rfl⟩
          rw [hN] at TS hc2 hTl ⊢
          have HN := Lib.hid hN
          clear hN
          simp only [Int.natCast_zero]
          go_wp2_with fail
          go_loopw [8] (fun u wr => ∃ i : Nat, i ≤ N ∧ u = .int .i64 i ∧ Hid (Below w2.heap.size w2 wr)) (fun u _ => N - (intOf u).toNat)
          case atStart => exact ⟨0, by omega, rfl, Lib.hid (Below.refl _ _)⟩
          case round =>
            obtain ⟨i, hi, rfl, HC⟩ := hrel
            by_cases hlt2 : i + 1 < N
            · have hb0 := HC.out
              obtain ⟨g, rfl, hg, -, -, -, -⟩ := tok_cells (TS.out.below hb0) i (by omega)
              have hce : ∀ W, Below w2.heap.size w2 W → W.cell? ⟨g, i * 4 + 1, none⟩ = some (.int .i64 ((T.getD i d0).at_ : Int)) ∧ W.cell? ⟨g, i * 4 + 3, none⟩ = some (.string ⟨(T.getD i d0).text.toArray⟩) ∧
                  W.cell? ⟨g, (i + 1) * 4 + 1, none⟩ = some (.int .i64 ((T.getD (i + 1) d0).at_ : Int)) ∧ W.cell? ⟨g, (i + 1) * 4 + 3, none⟩ = some (.string ⟨(T.getD (i + 1) d0).text.toArray⟩) := fun W h => by
                obtain ⟨g1, eg1, _, _, d1, _, d3⟩ := tok_cells (TS.out.below h) i (by omega)
                obtain ⟨g2, eg2, _, _, k1, _, k3⟩ := tok_cells (TS.out.below h) (i + 1) hlt2
                injection eg1 with eg1; injection eg1 with eg1; subst eg1
                injection eg2 with eg2; injection eg2 with eg2; subst eg2
                exact ⟨d1, d3, k1, k3⟩
              have HPB := Lib.hid (pair_bytes HX.out i (by rw [HN.out]; exact hlt2))
              have hb1 : (T.getD i d0).at_ + (⟨(T.getD i d0).text.toArray⟩ : ByteArray).size ≤ 408 := HTX.out i
              have hb2 : (T.getD (i + 1) d0).at_ + (⟨(T.getD (i + 1) d0).text.toArray⟩ : ByteArray).size ≤ 408 := HTX.out (i + 1)
              have HCE := Lib.hid hce
              clear hce
              generalize (T.getD i d0).at_ = ai at *
              generalize (T.getD (i + 1) d0).at_ = aj at *
              generalize (⟨(T.getD i d0).text.toArray⟩ : ByteArray) = tx at *
              generalize (⟨(T.getD (i + 1) d0).text.toArray⟩ : ByteArray) = ty at *
              obtain ⟨c1, c3, k1, k3⟩ := HCE.out wr hb0
              clear hb0
              have f0 : (0 : Int) ≤ (i : Int) := by omega
              have f1 : (i : Int) < (N : Int) := by omega
              have f2 : (0 : Int) ≤ (i : Int) + 1 := by omega
              have f3 : (i : Int) + 1 < (N : Int) := by omega
              by_cases hadj : ai + tx.size = aj
              · have hne : (((ai : Int) + (tx.size : Int)) != (aj : Int)) = false := by rw [bne_eq_false_iff_eq]; omega
                obtain ⟨t1, t2, hlx, e1, e2⟩ := HPB.out hadj
                have hsz : (tx ++ ty).size ≤ 816 := by rw [ByteArray.size_append]; omega
                have HPT : Hid (∀ W, RangeOk W → Calls Tryd.prog 16 #[.string (tx ++ ty)] W (ResPost 38 ([t1, t2], 0, 0) W)) := Lib.hid (fun W h => tokens_ok _ hlx (by omega) W h)
                have E1 := Lib.hid e1
                have E2 := Lib.hid e2
                clear hadj hlx e1 e2 hsz
                have hfit : tx.size + ty.size ≤ 140737488355328 := by omega
                go_wp2_with fail
                go_quiet (fail)
                go_wp2_with fail
                generalize hw3 : wr.drewN _ = w3
                have hbq : Below w2.heap.size w2 w3 := by rw [← hw3]; exact bdn HC.out _
                clear hw3 c1 c3 k1 k3
                have HC3 := Lib.hid hbq
                have BW3 := Lib.hid (B2.out.trans (hbq.mono B2.out.size))
                have hcc := HCE.out w3 hbq
                have k0 : w3.cell? ⟨g, i * 4 + 3, none⟩ = some (.string tx) ∧ w3.cell? ⟨g, (i + 1) * 4 + 3, none⟩ = some (.string ty) := ⟨hcc.2.1, hcc.2.2.2⟩
                clear hbq hcc
                have HK0 := Lib.hid k0
                clear k0
                have n1 : ¬ ((9223372036854775807 : Int) < (tx.size : Int) + (ty.size : Int)) := by omega
                have w1 : IntKind.i64.wrap ((i : Int) + 1) = (i : Int) + 1 := IntWalk.i64_in _ ⟨by omega, by omega⟩
                have w2' : ((i : Int) + 1).toNat = i + 1 := by omega
                refine wp_region_held_drew (S := (fun w' => w'.cell? ⟨g, i * 4 + 3, none⟩ = some (.string tx) ∧ w'.cell? ⟨g, (i + 1) * 4 + 3, none⟩ = some (.string ty))) (by kernel_rfl) ?_ (fun hHeld => ?_)
                · ((try dsimp only); first | exact HK0.out | exact ⟨(HCE.out _ (HC3.out.drew.trans (hb4.mono HC3.out.drew.size))).2.1, (HCE.out _ (HC3.out.drew.trans (hb4.mono HC3.out.drew.size))).2.2.2⟩)
                refine wpAnyH_take (i := 0) (oi := { dst := some 74, op := Op.move (Operand.tmp 5), type := 33, pos := "law.go:161", after := #[], guard := none }) (v := ?_) rfl (by kernel_rfl) (by kernel_rfl) (by kernel_rfl) (fun _ _ _ h => h) (Or.inl ⟨by rfl, ?_⟩) (by assumption) ?_
                rotate_left
                · (intro w hSw; (try dsimp only at hSw); go_simp; with_reducible rfl)
                try simp only [Act.put, List.setIfInBounds_toArray, List.set_cons_zero, List.set_cons_succ]
                refine wpAnyH_take (i := 1) (oi := { dst := some 75, op := Op.move (Operand.tmp 8), type := 3, pos := "law.go:161", after := #[], guard := none }) (v := ?_) rfl (by kernel_rfl) (by kernel_rfl) (by kernel_rfl) (fun _ _ _ h => h) (Or.inl ⟨by rfl, ?_⟩) (by assumption) ?_
                rotate_left
                · (intro w hSw; (try dsimp only at hSw); go_simp; with_reducible rfl)
                try simp only [Act.put, List.setIfInBounds_toArray, List.set_cons_zero, List.set_cons_succ]
                refine wpAnyH_take (i := 2) (oi := { dst := some 76, op := Op.indexAddr 33 (Operand.tmp 74) (Operand.tmp 75), type := 0, pos := "law.go:161", after := #[{ on := 0, ground := Ground.data }, { on := 1, ground := Ground.data }], guard := none }) (v := ?_) rfl (by kernel_rfl) (by kernel_rfl) (by kernel_rfl) (fun _ _ _ h => h) (Or.inl ⟨by rfl, ?_⟩) (by assumption) ?_
                rotate_left
                · (intro w hSw; (try dsimp only at hSw); go_simp; with_reducible rfl)
                try simp only [Act.put, List.setIfInBounds_toArray, List.set_cons_zero, List.set_cons_succ]
                refine wpAnyH_take (i := 3) (oi := { dst := some 77, op := Op.fieldAddr 38 (Operand.tmp 76) 3, type := 0, pos := "law.go:161", after := #[{ on := 2, ground := Ground.data }], guard := none }) (v := ?_) rfl (by kernel_rfl) (by kernel_rfl) (by kernel_rfl) (fun _ _ _ h => h) (Or.inl ⟨by rfl, ?_⟩) (by assumption) ?_
                rotate_left
                · (intro w hSw; (try dsimp only at hSw); go_simp; with_reducible rfl)
                try simp only [Act.put, List.setIfInBounds_toArray, List.set_cons_zero, List.set_cons_succ]
                refine wpAnyH_take (i := 4) (oi := { dst := some 78, op := Op.load 9 (Operand.tmp 77), type := 9, pos := "law.go:161", after := #[{ on := 3, ground := Ground.data }], guard := none }) (v := ?_) rfl (by kernel_rfl) (by kernel_rfl) (by kernel_rfl) (fun _ _ _ h => h) (Or.inl ⟨by rfl, ?_⟩) (by assumption) ?_
                rotate_left
                · (intro w hSw; (try dsimp only at hSw); go_simp; with_reducible rfl)
                try simp only [Act.put, List.setIfInBounds_toArray, List.set_cons_zero, List.set_cons_succ]
                refine wpAnyH_take (i := 5) (oi := { dst := some 79, op := Op.move (Operand.tmp 5), type := 33, pos := "law.go:161", after := #[], guard := none }) (v := ?_) rfl (by kernel_rfl) (by kernel_rfl) (by kernel_rfl) (fun _ _ _ h => h) (Or.inl ⟨by rfl, ?_⟩) (by assumption) ?_
                rotate_left
                · (intro w hSw; (try dsimp only at hSw); go_simp; with_reducible rfl)
                try simp only [Act.put, List.setIfInBounds_toArray, List.set_cons_zero, List.set_cons_succ]
                refine wpAnyH_take (i := 6) (oi := { dst := some 80, op := Op.move (Operand.tmp 8), type := 3, pos := "law.go:161", after := #[], guard := none }) (v := ?_) rfl (by kernel_rfl) (by kernel_rfl) (by kernel_rfl) (fun _ _ _ h => h) (Or.inl ⟨by rfl, ?_⟩) (by assumption) ?_
                rotate_left
                · (intro w hSw; (try dsimp only at hSw); go_simp; with_reducible rfl)
                try simp only [Act.put, List.setIfInBounds_toArray, List.set_cons_zero, List.set_cons_succ]
                refine wpAnyH_take (i := 7) (oi := { dst := some 81, op := Op.binOp BinOp.add 3 (Operand.tmp 80) (Operand.const (Value.int IntKind.i64 1)) 3, type := 3, pos := "law.go:161", after := #[{ on := 6, ground := Ground.data }], guard := none }) (v := ?_) rfl (by kernel_rfl) (by kernel_rfl) (by kernel_rfl) (fun _ _ _ h => h) (Or.inl ⟨by rfl, ?_⟩) (by assumption) ?_
                rotate_left
                · (intro w hSw; (try dsimp only at hSw); go_simp; with_reducible rfl)
                try simp only [Act.put, List.setIfInBounds_toArray, List.set_cons_zero, List.set_cons_succ]
                refine wpAnyH_take (i := 8) (oi := { dst := some 82, op := Op.indexAddr 33 (Operand.tmp 79) (Operand.tmp 81), type := 0, pos := "law.go:161", after := #[{ on := 5, ground := Ground.data }, { on := 7, ground := Ground.data }], guard := none }) (v := ?_) rfl (by kernel_rfl) (by kernel_rfl) (by kernel_rfl) (fun _ _ _ h => h) (Or.inl ⟨by rfl, ?_⟩) (by assumption) ?_
                rotate_left
                · (intro w hSw; (try dsimp only at hSw); go_simp; with_reducible rfl)
                try simp only [Act.put, List.setIfInBounds_toArray, List.set_cons_zero, List.set_cons_succ]
                refine wpAnyH_take (i := 9) (oi := { dst := some 83, op := Op.fieldAddr 38 (Operand.tmp 82) 3, type := 0, pos := "law.go:161", after := #[{ on := 8, ground := Ground.data }], guard := none }) (v := ?_) rfl (by kernel_rfl) (by kernel_rfl) (by kernel_rfl) (fun _ _ _ h => h) (Or.inl ⟨by rfl, ?_⟩) (by assumption) ?_
                rotate_left
                · (intro w hSw; (try dsimp only at hSw); go_simp; with_reducible rfl)
                try simp only [Act.put, List.setIfInBounds_toArray, List.set_cons_zero, List.set_cons_succ]
                refine wpAnyH_take (i := 10) (oi := { dst := some 84, op := Op.load 9 (Operand.tmp 83), type := 9, pos := "law.go:161", after := #[{ on := 9, ground := Ground.data }], guard := none }) (v := ?_) rfl (by kernel_rfl) (by kernel_rfl) (by kernel_rfl) (fun _ _ _ h => h) (Or.inl ⟨by rfl, ?_⟩) (by assumption) ?_
                rotate_left
                · (intro w hSw; (try dsimp only at hSw); go_simp; with_reducible rfl)
                try simp only [Act.put, List.setIfInBounds_toArray, List.set_cons_zero, List.set_cons_succ]
                refine wpAnyH_take (i := 11) (oi := { dst := some 85, op := Op.binOp BinOp.add 9 (Operand.tmp 78) (Operand.tmp 84) 9, type := 9, pos := "law.go:161", after := #[{ on := 4, ground := Ground.data }, { on := 10, ground := Ground.data }], guard := none }) (v := ?_) rfl (by kernel_rfl) (by kernel_rfl) (by kernel_rfl) (fun _ _ _ h => h) (Or.inl ⟨by rfl, ?_⟩) (by assumption) ?_
                rotate_left
                · (intro w hSw; (try dsimp only at hSw); go_simp; rw [if_neg (by omega)])
                try simp only [Act.put, List.setIfInBounds_toArray, List.set_cons_zero, List.set_cons_succ]
                refine wpAnyH_ready (rs := [12]) (by kernel_rfl) (by simp) ?_
                refine AllReadyH.cons (o := { dst := some 86, op := Op.call { callee := Callee.value (Operand.func 16), args := #[Operand.tmp 85], argTypes := #[9] }, type := 35, pos := "law.go:161", after := #[{ on := 11, ground := Ground.data }], guard := none }) rfl (fun K hK => ?_) AllReadyH.nil
                go_simp
                (go_at_call 16; refine (HPT.out _ (by exact HR.out.below BW3.out.drew)).mono ?_; rintro e w4 ⟨v4, rfl, hown4, hb4⟩)
                go_wp2_with fail
                refine hK.out _ _ ?_ (fun hHeld2 => ?_)
                · ((try dsimp only); first | exact HK0.out | exact ⟨(HCE.out _ (HC3.out.drew.trans (hb4.mono HC3.out.drew.size))).2.1, (HCE.out _ (HC3.out.drew.trans (hb4.mono HC3.out.drew.size))).2.2.2⟩)
                clear hK K hHeld; have hHeld := hHeld2; clear hHeld2
                try simp only [Act.put, List.setIfInBounds_toArray, List.set_cons_zero, List.set_cons_succ]
                refine wpAnyH_take (i := 13) (oi := { dst := some 73, op := Op.move (Operand.tmp 86), type := 35, pos := "law.go:161", after := #[{ on := 12, ground := Ground.data }], guard := none }) (v := ?_) rfl (by kernel_rfl) (by kernel_rfl) (by kernel_rfl) (fun _ _ _ h => h) (Or.inl ⟨by rfl, ?_⟩) (by assumption) ?_
                rotate_left
                · (intro w hSw; (try dsimp only at hSw); go_simp; with_reducible rfl)
                try simp only [Act.put, List.setIfInBounds_toArray, List.set_cons_zero, List.set_cons_succ]
                refine wpAnyH_take (i := 14) (oi := { dst := some 87, op := Op.extract (Operand.tmp 73) 0, type := 33, pos := "law.go:161", after := #[{ on := 13, ground := Ground.data }], guard := none }) (v := ?_) rfl (by kernel_rfl) (by kernel_rfl) (by kernel_rfl) (fun _ _ _ h => h) (Or.inl ⟨by rfl, ?_⟩) (by assumption) ?_
                rotate_left
                · (intro w hSw; (try dsimp only at hSw); go_simp; with_reducible rfl)
                try simp only [Act.put, List.setIfInBounds_toArray, List.set_cons_zero, List.set_cons_succ]
                refine wpAnyH_take (i := 15) (oi := { dst := some 88, op := Op.extract (Operand.tmp 73) 1, type := 3, pos := "law.go:161", after := #[{ on := 13, ground := Ground.data }, { on := 17, ground := Ground.gcOnly Departure.lateStores }], guard := none }) (v := ?_) rfl (by kernel_rfl) (by kernel_rfl) (by kernel_rfl) (fun _ _ _ h => h) (Or.inl ⟨by rfl, ?_⟩) (by assumption) ?_
                rotate_left
                · (intro w hSw; (try dsimp only at hSw); go_simp; with_reducible rfl)
                try simp only [Act.put, List.setIfInBounds_toArray, List.set_cons_zero, List.set_cons_succ]
                refine wpAnyH_take (i := 16) (oi := { dst := some 89, op := Op.extract (Operand.tmp 73) 2, type := 34, pos := "law.go:161", after := #[{ on := 13, ground := Ground.data }, { on := 18, ground := Ground.gcOnly Departure.lateStores }], guard := none }) (v := ?_) rfl (by kernel_rfl) (by kernel_rfl) (by kernel_rfl) (fun _ _ _ h => h) (Or.inl ⟨by rfl, ?_⟩) (by assumption) ?_
                rotate_left
                · (intro w hSw; (try dsimp only at hSw); go_simp; with_reducible rfl)
                try simp only [Act.put, List.setIfInBounds_toArray, List.set_cons_zero, List.set_cons_succ]
                refine wpAnyH_take (i := 17) (oi := { dst := some 9, op := Op.assign (Operand.tmp 87), type := 33, pos := "law.go:161", after := #[{ on := 14, ground := Ground.data }, { on := 12, ground := Ground.chain }, { on := 0, ground := Ground.phase }, { on := 1, ground := Ground.phase }, { on := 2, ground := Ground.phase }, { on := 3, ground := Ground.phase }, { on := 4, ground := Ground.phase }, { on := 5, ground := Ground.phase }, { on := 6, ground := Ground.phase }, { on := 7, ground := Ground.phase }, { on := 8, ground := Ground.phase }, { on := 9, ground := Ground.phase }, { on := 10, ground := Ground.phase }, { on := 11, ground := Ground.phase }, { on := 12, ground := Ground.phase }, { on := 13, ground := Ground.phase }, { on := 14, ground := Ground.phase }, { on := 15, ground := Ground.textOnly Departure.lateStores }, { on := 16, ground := Ground.textOnly Departure.lateStores }], guard := none }) (v := ?_) rfl (by kernel_rfl) (by kernel_rfl) (by kernel_rfl) (fun _ _ _ h => h) (Or.inl ⟨by rfl, ?_⟩) (by assumption) ?_
                rotate_left
                · (intro w hSw; (try dsimp only at hSw); go_simp; with_reducible rfl)
                try simp only [Act.put, List.setIfInBounds_toArray, List.set_cons_zero, List.set_cons_succ]
                refine wpAnyH_take (i := 18) (oi := { dst := some 10, op := Op.assign (Operand.tmp 88), type := 3, pos := "law.go:161", after := #[{ on := 15, ground := Ground.data }, { on := 17, ground := Ground.chain }, { on := 0, ground := Ground.phase }, { on := 1, ground := Ground.phase }, { on := 2, ground := Ground.phase }, { on := 3, ground := Ground.phase }, { on := 4, ground := Ground.phase }, { on := 5, ground := Ground.phase }, { on := 6, ground := Ground.phase }, { on := 7, ground := Ground.phase }, { on := 8, ground := Ground.phase }, { on := 9, ground := Ground.phase }, { on := 10, ground := Ground.phase }, { on := 11, ground := Ground.phase }, { on := 12, ground := Ground.phase }, { on := 13, ground := Ground.phase }, { on := 14, ground := Ground.phase }, { on := 15, ground := Ground.phase }, { on := 16, ground := Ground.textOnly Departure.lateStores }, { on := 17, ground := Ground.phase }], guard := none }) (v := ?_) rfl (by kernel_rfl) (by kernel_rfl) (by kernel_rfl) (fun _ _ _ h => h) (Or.inl ⟨by rfl, ?_⟩) (by assumption) ?_
                rotate_left
                · (intro w hSw; (try dsimp only at hSw); go_simp; with_reducible rfl)
                try simp only [Act.put, List.setIfInBounds_toArray, List.set_cons_zero, List.set_cons_succ]
                refine wpAnyH_take (i := 19) (oi := { dst := some 11, op := Op.assign (Operand.tmp 89), type := 34, pos := "law.go:161", after := #[{ on := 16, ground := Ground.data }, { on := 18, ground := Ground.chain }, { on := 0, ground := Ground.phase }, { on := 1, ground := Ground.phase }, { on := 2, ground := Ground.phase }, { on := 3, ground := Ground.phase }, { on := 4, ground := Ground.phase }, { on := 5, ground := Ground.phase }, { on := 6, ground := Ground.phase }, { on := 7, ground := Ground.phase }, { on := 8, ground := Ground.phase }, { on := 9, ground := Ground.phase }, { on := 10, ground := Ground.phase }, { on := 11, ground := Ground.phase }, { on := 12, ground := Ground.phase }, { on := 13, ground := Ground.phase }, { on := 14, ground := Ground.phase }, { on := 15, ground := Ground.phase }, { on := 16, ground := Ground.phase }, { on := 17, ground := Ground.phase }, { on := 18, ground := Ground.phase }], guard := none }) (v := ?_) rfl (by kernel_rfl) (by kernel_rfl) (by kernel_rfl) (fun _ _ _ h => h) (Or.inl ⟨by rfl, ?_⟩) (by assumption) ?_
                rotate_left
                · (intro w hSw; (try dsimp only at hSw); go_simp; with_reducible rfl)
                try simp only [Act.put, List.setIfInBounds_toArray, List.set_cons_zero, List.set_cons_succ]
                refine wpAnyH_done (by kernel_rfl) ?_ _
                skip
                clear w1 w2'
                have HC4 := Lib.hid (HC3.out.drew.trans (hb4.mono HC3.out.drew.size))
                have hown4' : w4.ownsRow w3.drew.heap.size 38 4 v4 [t1, t2].length (rowOf [t1, t2]) := hown4
                obtain ⟨A4, c4, rfl, hc4⟩ := (TokSl.of_own hown4').form
                have TS4 : Hid (TokSl w4 (.slice A4 2 c4) [t1, t2]) := Lib.hid (TokSl.of_own hown4')
                obtain ⟨g4, rfl, hg4, -, -, -, -⟩ := tok_cells TS4.out 0 (by omega)
                have hMK : ∀ W, Below w4.heap.size w4 W → Below w4.heap.size w4 W ∧ (W.cell? ⟨g4, 3, none⟩ = some (.string tx) ∧ W.cell? ⟨g4, 7, none⟩ = some (.string ty)) ∧ (W.cell? ⟨g, i * 4 + 3, none⟩ = some (.string tx) ∧ W.cell? ⟨g, (i + 1) * 4 + 3, none⟩ = some (.string ty)) := fun W h => by
                  obtain ⟨a1, ea1, _, _, _, _, x3⟩ := tok_cells (TS4.out.below h) 0 (by omega)
                  obtain ⟨a2, ea2, _, _, _, _, y3⟩ := tok_cells (TS4.out.below h) 1 (by omega)
                  injection ea1 with ea1; injection ea1 with ea1; subst ea1
                  injection ea2 with ea2; injection ea2 with ea2; subst ea2
                  have hz := HCE.out W (HC4.out.trans (h.mono HC4.out.size))
                  refine ⟨h, ⟨?_, ?_⟩, hz.2.1, hz.2.2.2⟩
                  · rw [← E1.out]; exact x3
                  · rw [← E2.out]; exact y3
                have MK := Lib.hid hMK
                have hts : tx.size ≤ 8192 := by omega
                have HHS := Lib.hid (fun N c W h => hash_row tx hts N c W h)
                have hcv := fun W => Lib.run_convert_string_bytes (P := Tryd.prog) W 9 29 5 tx (u := .string) Tryd.underlying9 Tryd.underlying29 Tryd.underlying5
                clear hown4 hown4' hb4 hMK hHeld
                simp only [List.length_cons, List.length_nil, Nat.zero_add, Nat.reduceAdd]
                go_wp2_with fail
                have w1 : IntKind.i64.wrap ((i : Int) + 1) = (i : Int) + 1 := IntWalk.i64_in _ ⟨by omega, by omega⟩
                have w2' : ((i : Int) + 1).toNat = i + 1 := by omega
                refine wp_region_held_drew (S := (fun w' => Below w4.heap.size w4 w' ∧ (w'.cell? ⟨g4, 3, none⟩ = some (.string tx) ∧ w'.cell? ⟨g4, 7, none⟩ = some (.string ty)) ∧ (w'.cell? ⟨g, i * 4 + 3, none⟩ = some (.string tx) ∧ w'.cell? ⟨g, (i + 1) * 4 + 3, none⟩ = some (.string ty)))) (by kernel_rfl) ?_ (fun hHeld => ?_)
                · ((try dsimp only); first | exact MK.out _ (Below.refl _ _).drew | exact MK.out _ (hHeld.1.trans ((bytes_below _ _).mono hHeld.1.size)) | exact MK.out _ (hHeld.1.trans (hb6.mono hHeld.1.size)))
                refine wpAnyH_take (i := 0) (oi := { dst := some 90, op := Op.move (Operand.tmp 11), type := 34, pos := "law.go:162", after := #[], guard := none }) (v := ?_) rfl (by kernel_rfl) (by kernel_rfl) (by kernel_rfl) (fun _ _ _ h => h) (Or.inl ⟨by rfl, ?_⟩) (by assumption) ?_
                rotate_left
                · (intro w hSw; (try dsimp only at hSw); go_simp; with_reducible rfl)
                try simp only [Act.put, List.setIfInBounds_toArray, List.set_cons_zero, List.set_cons_succ]
                refine wpAnyH_take (i := 1) (oi := { dst := some 91, op := Op.binOp BinOp.neq 34 (Operand.tmp 90) (Operand.const (Value.int IntKind.i64 0)) 34, type := 4, pos := "law.go:162", after := #[{ on := 0, ground := Ground.data }], guard := none }) (v := ?_) rfl (by kernel_rfl) (by kernel_rfl) (by kernel_rfl) (fun _ _ _ h => h) (Or.inl ⟨by rfl, ?_⟩) (by assumption) ?_
                rotate_left
                · (intro w hSw; (try dsimp only at hSw); go_simp; with_reducible rfl)
                try simp only [Act.put, List.setIfInBounds_toArray, List.set_cons_zero, List.set_cons_succ]
                refine wpAnyH_take (i := 2) (oi := { dst := some 92, op := Op.move (Operand.tmp 91), type := 4, pos := "law.go:162", after := #[{ on := 1, ground := Ground.data }], guard := none }) (v := ?_) rfl (by kernel_rfl) (by kernel_rfl) (by kernel_rfl) (fun _ _ _ h => h) (Or.inl ⟨by rfl, ?_⟩) (by assumption) ?_
                rotate_left
                · (intro w hSw; (try dsimp only at hSw); go_simp; with_reducible rfl)
                try simp only [Act.put, List.setIfInBounds_toArray, List.set_cons_zero, List.set_cons_succ]
                refine wpAnyH_take (i := 3) (oi := { dst := some 93, op := Op.move (Operand.tmp 9), type := 33, pos := "law.go:162", after := #[{ on := 2, ground := Ground.guard }], guard := some (2, false) }) (v := ?_) rfl (by kernel_rfl) (by kernel_rfl) (by kernel_rfl) (fun _ _ _ h => h) (Or.inl ⟨by rfl, ?_⟩) (by assumption) ?_
                rotate_left
                · (intro w hSw; (try dsimp only at hSw); go_simp; with_reducible rfl)
                try simp only [Act.put, List.setIfInBounds_toArray, List.set_cons_zero, List.set_cons_succ]
                refine wpAnyH_take (i := 4) (oi := { dst := some 94, op := Op.call { callee := Callee.builtin Builtin.len, args := #[Operand.tmp 93], argTypes := #[33] }, type := 3, pos := "law.go:162", after := #[{ on := 3, ground := Ground.data }, { on := 2, ground := Ground.guard }], guard := some (2, false) }) (v := ?_) rfl (by kernel_rfl) (by kernel_rfl) (by kernel_rfl) (fun _ _ _ h => h) (Or.inl ⟨by rfl, ?_⟩) (by assumption) ?_
                rotate_left
                · (intro w hSw; (try dsimp only at hSw); go_simp; with_reducible rfl)
                try simp only [Act.put, List.setIfInBounds_toArray, List.set_cons_zero, List.set_cons_succ]
                refine wpAnyH_take (i := 5) (oi := { dst := some 95, op := Op.binOp BinOp.neq 3 (Operand.tmp 94) (Operand.const (Value.int IntKind.i64 2)) 3, type := 4, pos := "law.go:162", after := #[{ on := 4, ground := Ground.data }, { on := 2, ground := Ground.guard }], guard := some (2, false) }) (v := ?_) rfl (by kernel_rfl) (by kernel_rfl) (by kernel_rfl) (fun _ _ _ h => h) (Or.inl ⟨by rfl, ?_⟩) (by assumption) ?_
                rotate_left
                · (intro w hSw; (try dsimp only at hSw); go_simp; with_reducible rfl)
                try simp only [Act.put, List.setIfInBounds_toArray, List.set_cons_zero, List.set_cons_succ]
                refine wpAnyH_take (i := 6) (oi := { dst := some 96, op := Op.pick (Operand.tmp 92) (Operand.const (Value.bool true)) (Operand.tmp 95), type := 4, pos := "law.go:162", after := #[{ on := 2, ground := Ground.data }, { on := 5, ground := Ground.data }], guard := none }) (v := ?_) rfl (by kernel_rfl) (by kernel_rfl) (by kernel_rfl) (fun _ _ _ h => h) (Or.inl ⟨by rfl, ?_⟩) (by assumption) ?_
                rotate_left
                · (intro w hSw; (try dsimp only at hSw); go_simp; with_reducible rfl)
                try simp only [Act.put, List.setIfInBounds_toArray, List.set_cons_zero, List.set_cons_succ]
                refine wpAnyH_take (i := 7) (oi := { dst := some 97, op := Op.move (Operand.tmp 96), type := 4, pos := "law.go:162", after := #[{ on := 6, ground := Ground.data }, { on := 2, ground := Ground.chain }], guard := none }) (v := ?_) rfl (by kernel_rfl) (by kernel_rfl) (by kernel_rfl) (fun _ _ _ h => h) (Or.inl ⟨by rfl, ?_⟩) (by assumption) ?_
                rotate_left
                · (intro w hSw; (try dsimp only at hSw); go_simp; with_reducible rfl)
                try simp only [Act.put, List.setIfInBounds_toArray, List.set_cons_zero, List.set_cons_succ]
                refine wpAnyH_take (i := 8) (oi := { dst := some 98, op := Op.move (Operand.tmp 9), type := 33, pos := "law.go:162", after := #[{ on := 7, ground := Ground.guard }], guard := some (7, false) }) (v := ?_) rfl (by kernel_rfl) (by kernel_rfl) (by kernel_rfl) (fun _ _ _ h => h) (Or.inl ⟨by rfl, ?_⟩) (by assumption) ?_
                rotate_left
                · (intro w hSw; (try dsimp only at hSw); go_simp; with_reducible rfl)
                try simp only [Act.put, List.setIfInBounds_toArray, List.set_cons_zero, List.set_cons_succ]
                refine wpAnyH_take (i := 9) (oi := { dst := some 99, op := Op.indexAddr 33 (Operand.tmp 98) (Operand.const (Value.int IntKind.i64 0)), type := 0, pos := "law.go:162", after := #[{ on := 8, ground := Ground.data }, { on := 7, ground := Ground.guard }], guard := some (7, false) }) (v := ?_) rfl (by kernel_rfl) (by kernel_rfl) (by kernel_rfl) (fun _ _ _ h => h) (Or.inl ⟨by rfl, ?_⟩) (by assumption) ?_
                rotate_left
                · (intro w hSw; (try dsimp only at hSw); go_simp; with_reducible rfl)
                try simp only [Act.put, List.setIfInBounds_toArray, List.set_cons_zero, List.set_cons_succ]
                refine wpAnyH_take (i := 10) (oi := { dst := some 100, op := Op.fieldAddr 38 (Operand.tmp 99) 3, type := 0, pos := "law.go:162", after := #[{ on := 9, ground := Ground.data }, { on := 7, ground := Ground.guard }], guard := some (7, false) }) (v := ?_) rfl (by kernel_rfl) (by kernel_rfl) (by kernel_rfl) (fun _ _ _ h => h) (Or.inl ⟨by rfl, ?_⟩) (by assumption) ?_
                rotate_left
                · (intro w hSw; (try dsimp only at hSw); go_simp; with_reducible rfl)
                try simp only [Act.put, List.setIfInBounds_toArray, List.set_cons_zero, List.set_cons_succ]
                refine wpAnyH_take (i := 11) (oi := { dst := some 101, op := Op.load 9 (Operand.tmp 100), type := 9, pos := "law.go:162", after := #[{ on := 10, ground := Ground.data }, { on := 7, ground := Ground.guard }], guard := some (7, false) }) (v := ?_) rfl (by kernel_rfl) (by kernel_rfl) (by kernel_rfl) (fun _ _ _ h => h) (Or.inl ⟨by rfl, ?_⟩) (by assumption) ?_
                rotate_left
                · (intro w hSw; (try dsimp only at hSw); go_simp; with_reducible rfl)
                try simp only [Act.put, List.setIfInBounds_toArray, List.set_cons_zero, List.set_cons_succ]
                refine wpAnyH_take (i := 14) (oi := { dst := some 104, op := Op.move (Operand.tmp 5), type := 33, pos := "law.go:162", after := #[{ on := 7, ground := Ground.guard }], guard := some (7, false) }) (v := ?_) rfl (by kernel_rfl) (by kernel_rfl) (by kernel_rfl) (fun _ _ _ h => h) (Or.inl ⟨by rfl, ?_⟩) (by assumption) ?_
                rotate_left
                · (intro w hSw; (try dsimp only at hSw); go_simp; with_reducible rfl)
                try simp only [Act.put, List.setIfInBounds_toArray, List.set_cons_zero, List.set_cons_succ]
                refine wpAnyH_take (i := 15) (oi := { dst := some 105, op := Op.move (Operand.tmp 8), type := 3, pos := "law.go:162", after := #[{ on := 7, ground := Ground.guard }], guard := some (7, false) }) (v := ?_) rfl (by kernel_rfl) (by kernel_rfl) (by kernel_rfl) (fun _ _ _ h => h) (Or.inl ⟨by rfl, ?_⟩) (by assumption) ?_
                rotate_left
                · (intro w hSw; (try dsimp only at hSw); go_simp; with_reducible rfl)
                try simp only [Act.put, List.setIfInBounds_toArray, List.set_cons_zero, List.set_cons_succ]
                refine wpAnyH_take (i := 16) (oi := { dst := some 106, op := Op.indexAddr 33 (Operand.tmp 104) (Operand.tmp 105), type := 0, pos := "law.go:162", after := #[{ on := 14, ground := Ground.data }, { on := 15, ground := Ground.data }, { on := 7, ground := Ground.guard }], guard := some (7, false) }) (v := ?_) rfl (by kernel_rfl) (by kernel_rfl) (by kernel_rfl) (fun _ _ _ h => h) (Or.inl ⟨by rfl, ?_⟩) (by assumption) ?_
                rotate_left
                · (intro w hSw; (try dsimp only at hSw); go_simp; with_reducible rfl)
                try simp only [Act.put, List.setIfInBounds_toArray, List.set_cons_zero, List.set_cons_succ]
                refine wpAnyH_take (i := 17) (oi := { dst := some 107, op := Op.fieldAddr 38 (Operand.tmp 106) 3, type := 0, pos := "law.go:162", after := #[{ on := 16, ground := Ground.data }, { on := 7, ground := Ground.guard }], guard := some (7, false) }) (v := ?_) rfl (by kernel_rfl) (by kernel_rfl) (by kernel_rfl) (fun _ _ _ h => h) (Or.inl ⟨by rfl, ?_⟩) (by assumption) ?_
                rotate_left
                · (intro w hSw; (try dsimp only at hSw); go_simp; with_reducible rfl)
                try simp only [Act.put, List.setIfInBounds_toArray, List.set_cons_zero, List.set_cons_succ]
                refine wpAnyH_take (i := 18) (oi := { dst := some 108, op := Op.load 9 (Operand.tmp 107), type := 9, pos := "law.go:162", after := #[{ on := 17, ground := Ground.data }, { on := 7, ground := Ground.guard }], guard := some (7, false) }) (v := ?_) rfl (by kernel_rfl) (by kernel_rfl) (by kernel_rfl) (fun _ _ _ h => h) (Or.inl ⟨by rfl, ?_⟩) (by assumption) ?_
                rotate_left
                · (intro w hSw; (try dsimp only at hSw); go_simp; with_reducible rfl)
                try simp only [Act.put, List.setIfInBounds_toArray, List.set_cons_zero, List.set_cons_succ]
                refine wpAnyH_ready (rs := [12, 19]) (by kernel_rfl) (by simp) ?_
                refine AllReadyH.cons (o := { dst := some 102, op := Op.convert 9 29 (Operand.tmp 101), type := 29, pos := "law.go:162", after := #[{ on := 11, ground := Ground.data }, { on := 7, ground := Ground.guard }], guard := some (7, false) }) rfl (fun K hK => ?_) ?_
                · go_simp
                  refine hK.out _ _ ?_ (fun hHeld2 => ?_)
                  · ((try dsimp only); first | exact MK.out _ (Below.refl _ _).drew | exact MK.out _ (hHeld.1.trans ((bytes_below _ _).mono hHeld.1.size)) | exact MK.out _ (hHeld.1.trans (hb6.mono hHeld.1.size)))
                  clear hK K hHeld; have hHeld := hHeld2; clear hHeld2
                  try simp only [Act.put, List.setIfInBounds_toArray, List.set_cons_zero, List.set_cons_succ]
                  refine wpAnyH_ready (rs := [13, 19]) (by kernel_rfl) (by simp) ?_
                  refine AllReadyH.cons (o := { dst := some 103, op := Op.call { callee := Callee.value (Operand.func 21), args := #[Operand.const (Value.string { data := #[116] }), Operand.tmp 102], argTypes := #[9, 29] }, type := 46, pos := "law.go:162", after := #[{ on := 12, ground := Ground.data }, { on := 7, ground := Ground.chain }, { on := 7, ground := Ground.guard }], guard := some (7, false) }) rfl (fun K hK => ?_) ?_
                  · go_simp
                    (go_at_call 21; refine (HHS.out _ _ _ (by first | exact RowOk.conv _ _ | exact (RowOk.conv _ _).step _ | (refine RowOk.below ?_ hb6; first | exact RowOk.conv _ _ | exact (RowOk.conv _ _).step _))).mono ?_; rintro e w6 ⟨rfl, hb6⟩)
                    go_wp2_with fail
                    refine hK.out _ _ ?_ (fun hHeld2 => ?_)
                    · ((try dsimp only); first | exact MK.out _ (Below.refl _ _).drew | exact MK.out _ (hHeld.1.trans ((bytes_below _ _).mono hHeld.1.size)) | exact MK.out _ (hHeld.1.trans (hb6.mono hHeld.1.size)))
                    clear hK K hHeld; have hHeld := hHeld2; clear hHeld2
                    try simp only [Act.put, List.setIfInBounds_toArray, List.set_cons_zero, List.set_cons_succ]
                    refine wpAnyH_ready (rs := [19]) (by kernel_rfl) (by simp) ?_
                    refine AllReadyH.cons (o := { dst := some 109, op := Op.convert 9 29 (Operand.tmp 108), type := 29, pos := "law.go:162", after := #[{ on := 18, ground := Ground.data }, { on := 7, ground := Ground.guard }], guard := some (7, false) }) rfl (fun K hK => ?_) AllReadyH.nil
                    go_simp
                    refine hK.out _ _ ?_ (fun hHeld2 => ?_)
                    · ((try dsimp only); first | exact MK.out _ (Below.refl _ _).drew | exact MK.out _ (hHeld.1.trans ((bytes_below _ _).mono hHeld.1.size)) | exact MK.out _ (hHeld.1.trans (hb6.mono hHeld.1.size)))
                    clear hK K hHeld; have hHeld := hHeld2; clear hHeld2
                    try simp only [Act.put, List.setIfInBounds_toArray, List.set_cons_zero, List.set_cons_succ]
                    refine wpAnyH_ready (rs := [20]) (by kernel_rfl) (by simp) ?_
                    refine AllReadyH.cons (o := { dst := some 110, op := Op.call { callee := Callee.value (Operand.func 21), args := #[Operand.const (Value.string { data := #[116] }), Operand.tmp 109], argTypes := #[9, 29] }, type := 46, pos := "law.go:162", after := #[{ on := 19, ground := Ground.data }, { on := 13, ground := Ground.chain }, { on := 7, ground := Ground.guard }], guard := some (7, false) }) rfl (fun K hK => ?_) AllReadyH.nil
                    go_simp
                    (go_at_call 21; refine (HHS.out _ _ _ (by first | exact RowOk.conv _ _ | exact (RowOk.conv _ _).step _ | (refine RowOk.below ?_ hb6; first | exact RowOk.conv _ _ | exact (RowOk.conv _ _).step _))).mono ?_; rintro e w6 ⟨rfl, hb6⟩)
                    go_wp2_with fail
                    refine hK.out _ _ ?_ (fun hHeld2 => ?_)
                    · ((try dsimp only); first | exact MK.out _ (Below.refl _ _).drew | exact MK.out _ (hHeld.1.trans ((bytes_below _ _).mono hHeld.1.size)) | exact MK.out _ (hHeld.1.trans (hb6.mono hHeld.1.size)))
                    clear hK K hHeld; have hHeld := hHeld2; clear hHeld2
                    try simp only [Act.put, List.setIfInBounds_toArray, List.set_cons_zero, List.set_cons_succ]
                    refine wpAnyH_take (i := 21) (oi := { dst := some 111, op := Op.binOp BinOp.neq 46 (Operand.tmp 103) (Operand.tmp 110) 46, type := 4, pos := "law.go:162", after := #[{ on := 13, ground := Ground.data }, { on := 20, ground := Ground.data }, { on := 7, ground := Ground.guard }], guard := some (7, false) }) (v := ?_) rfl (by kernel_rfl) (by kernel_rfl) (by kernel_rfl) (fun _ _ _ h => h) (Or.inl ⟨by rfl, ?_⟩) (by assumption) ?_
                    rotate_left
                    · (intro w hSw; (try dsimp only at hSw); go_simp; with_reducible rfl)
                    try simp only [Act.put, List.setIfInBounds_toArray, List.set_cons_zero, List.set_cons_succ]
                    refine wpAnyH_take (i := 22) (oi := { dst := some 112, op := Op.pick (Operand.tmp 97) (Operand.const (Value.bool true)) (Operand.tmp 111), type := 4, pos := "law.go:162", after := #[{ on := 7, ground := Ground.data }, { on := 21, ground := Ground.data }], guard := none }) (v := ?_) rfl (by kernel_rfl) (by kernel_rfl) (by kernel_rfl) (fun _ _ _ h => h) (Or.inl ⟨by rfl, ?_⟩) (by assumption) ?_
                    rotate_left
                    · (intro w hSw; (try dsimp only at hSw); go_simp; with_reducible rfl)
                    try simp only [Act.put, List.setIfInBounds_toArray, List.set_cons_zero, List.set_cons_succ]
                    refine wpAnyH_take (i := 23) (oi := { dst := some 113, op := Op.move (Operand.tmp 112), type := 4, pos := "law.go:162", after := #[{ on := 22, ground := Ground.data }, { on := 20, ground := Ground.chain }], guard := none }) (v := ?_) rfl (by kernel_rfl) (by kernel_rfl) (by kernel_rfl) (fun _ _ _ h => h) (Or.inl ⟨by rfl, ?_⟩) (by assumption) ?_
                    rotate_left
                    · (intro w hSw; (try dsimp only at hSw); go_simp; with_reducible rfl)
                    try simp only [Act.put, List.setIfInBounds_toArray, List.set_cons_zero, List.set_cons_succ]
                    refine wpAnyH_take (i := 24) (oi := { dst := some 114, op := Op.move (Operand.tmp 9), type := 33, pos := "law.go:162", after := #[{ on := 23, ground := Ground.guard }], guard := some (23, false) }) (v := ?_) rfl (by kernel_rfl) (by kernel_rfl) (by kernel_rfl) (fun _ _ _ h => h) (Or.inl ⟨by rfl, ?_⟩) (by assumption) ?_
                    rotate_left
                    · (intro w hSw; (try dsimp only at hSw); go_simp; with_reducible rfl)
                    try simp only [Act.put, List.setIfInBounds_toArray, List.set_cons_zero, List.set_cons_succ]
                    refine wpAnyH_take (i := 25) (oi := { dst := some 115, op := Op.indexAddr 33 (Operand.tmp 114) (Operand.const (Value.int IntKind.i64 1)), type := 0, pos := "law.go:162", after := #[{ on := 24, ground := Ground.data }, { on := 23, ground := Ground.guard }], guard := some (23, false) }) (v := ?_) rfl (by kernel_rfl) (by kernel_rfl) (by kernel_rfl) (fun _ _ _ h => h) (Or.inl ⟨by rfl, ?_⟩) (by assumption) ?_
                    rotate_left
                    · (intro w hSw; (try dsimp only at hSw); go_simp; with_reducible rfl)
                    try simp only [Act.put, List.setIfInBounds_toArray, List.set_cons_zero, List.set_cons_succ]
                    refine wpAnyH_take (i := 26) (oi := { dst := some 116, op := Op.fieldAddr 38 (Operand.tmp 115) 3, type := 0, pos := "law.go:162", after := #[{ on := 25, ground := Ground.data }, { on := 23, ground := Ground.guard }], guard := some (23, false) }) (v := ?_) rfl (by kernel_rfl) (by kernel_rfl) (by kernel_rfl) (fun _ _ _ h => h) (Or.inl ⟨by rfl, ?_⟩) (by assumption) ?_
                    rotate_left
                    · (intro w hSw; (try dsimp only at hSw); go_simp; with_reducible rfl)
                    try simp only [Act.put, List.setIfInBounds_toArray, List.set_cons_zero, List.set_cons_succ]
                    refine wpAnyH_take (i := 27) (oi := { dst := some 117, op := Op.load 9 (Operand.tmp 116), type := 9, pos := "law.go:162", after := #[{ on := 26, ground := Ground.data }, { on := 23, ground := Ground.guard }], guard := some (23, false) }) (v := ?_) rfl (by kernel_rfl) (by kernel_rfl) (by kernel_rfl) (fun _ _ _ h => h) (Or.inl ⟨by rfl, ?_⟩) (by assumption) ?_
                    rotate_left
                    · (intro w hSw; (try dsimp only at hSw); go_simp; with_reducible rfl)
                    try simp only [Act.put, List.setIfInBounds_toArray, List.set_cons_zero, List.set_cons_succ]
                    refine wpAnyH_take (i := 28) (oi := { dst := some 118, op := Op.move (Operand.tmp 5), type := 33, pos := "law.go:162", after := #[{ on := 23, ground := Ground.guard }], guard := some (23, false) }) (v := ?_) rfl (by kernel_rfl) (by kernel_rfl) (by kernel_rfl) (fun _ _ _ h => h) (Or.inl ⟨by rfl, ?_⟩) (by assumption) ?_
                    rotate_left
                    · (intro w hSw; (try dsimp only at hSw); go_simp; with_reducible rfl)
                    try simp only [Act.put, List.setIfInBounds_toArray, List.set_cons_zero, List.set_cons_succ]
                    refine wpAnyH_take (i := 29) (oi := { dst := some 119, op := Op.move (Operand.tmp 8), type := 3, pos := "law.go:162", after := #[{ on := 23, ground := Ground.guard }], guard := some (23, false) }) (v := ?_) rfl (by kernel_rfl) (by kernel_rfl) (by kernel_rfl) (fun _ _ _ h => h) (Or.inl ⟨by rfl, ?_⟩) (by assumption) ?_
                    rotate_left
                    · (intro w hSw; (try dsimp only at hSw); go_simp; with_reducible rfl)
                    try simp only [Act.put, List.setIfInBounds_toArray, List.set_cons_zero, List.set_cons_succ]
                    refine wpAnyH_take (i := 30) (oi := { dst := some 120, op := Op.binOp BinOp.add 3 (Operand.tmp 119) (Operand.const (Value.int IntKind.i64 1)) 3, type := 3, pos := "law.go:162", after := #[{ on := 29, ground := Ground.data }, { on := 23, ground := Ground.guard }], guard := some (23, false) }) (v := ?_) rfl (by kernel_rfl) (by kernel_rfl) (by kernel_rfl) (fun _ _ _ h => h) (Or.inl ⟨by rfl, ?_⟩) (by assumption) ?_
                    rotate_left
                    · (intro w hSw; (try dsimp only at hSw); go_simp; with_reducible rfl)
                    try simp only [Act.put, List.setIfInBounds_toArray, List.set_cons_zero, List.set_cons_succ]
                    refine wpAnyH_take (i := 31) (oi := { dst := some 121, op := Op.indexAddr 33 (Operand.tmp 118) (Operand.tmp 120), type := 0, pos := "law.go:162", after := #[{ on := 28, ground := Ground.data }, { on := 30, ground := Ground.data }, { on := 23, ground := Ground.guard }], guard := some (23, false) }) (v := ?_) rfl (by kernel_rfl) (by kernel_rfl) (by kernel_rfl) (fun _ _ _ h => h) (Or.inl ⟨by rfl, ?_⟩) (by assumption) ?_
                    rotate_left
                    · (intro w hSw; (try dsimp only at hSw); go_simp; with_reducible rfl)
                    try simp only [Act.put, List.setIfInBounds_toArray, List.set_cons_zero, List.set_cons_succ]
                    refine wpAnyH_take (i := 32) (oi := { dst := some 122, op := Op.fieldAddr 38 (Operand.tmp 121) 3, type := 0, pos := "law.go:162", after := #[{ on := 31, ground := Ground.data }, { on := 23, ground := Ground.guard }], guard := some (23, false) }) (v := ?_) rfl (by kernel_rfl) (by kernel_rfl) (by kernel_rfl) (fun _ _ _ h => h) (Or.inl ⟨by rfl, ?_⟩) (by assumption) ?_
                    rotate_left
                    · (intro w hSw; (try dsimp only at hSw); go_simp; with_reducible rfl)
                    try simp only [Act.put, List.setIfInBounds_toArray, List.set_cons_zero, List.set_cons_succ]
                    refine wpAnyH_take (i := 33) (oi := { dst := some 123, op := Op.load 9 (Operand.tmp 122), type := 9, pos := "law.go:162", after := #[{ on := 32, ground := Ground.data }, { on := 23, ground := Ground.guard }], guard := some (23, false) }) (v := ?_) rfl (by kernel_rfl) (by kernel_rfl) (by kernel_rfl) (fun _ _ _ h => h) (Or.inl ⟨by rfl, ?_⟩) (by assumption) ?_
                    rotate_left
                    · (intro w hSw; (try dsimp only at hSw); go_simp; with_reducible rfl)
                    try simp only [Act.put, List.setIfInBounds_toArray, List.set_cons_zero, List.set_cons_succ]
                    refine wpAnyH_take (i := 34) (oi := { dst := some 124, op := Op.binOp BinOp.neq 9 (Operand.tmp 117) (Operand.tmp 123) 9, type := 4, pos := "law.go:162", after := #[{ on := 27, ground := Ground.data }, { on := 33, ground := Ground.data }, { on := 23, ground := Ground.guard }], guard := some (23, false) }) (v := ?_) rfl (by kernel_rfl) (by kernel_rfl) (by kernel_rfl) (fun _ _ _ h => h) (Or.inl ⟨by rfl, ?_⟩) (by assumption) ?_
                    rotate_left
                    · (intro w hSw; (try dsimp only at hSw); go_simp; with_reducible rfl)
                    try simp only [Act.put, List.setIfInBounds_toArray, List.set_cons_zero, List.set_cons_succ]
                    refine wpAnyH_take (i := 35) (oi := { dst := some 125, op := Op.pick (Operand.tmp 113) (Operand.const (Value.bool true)) (Operand.tmp 124), type := 4, pos := "law.go:162", after := #[{ on := 23, ground := Ground.data }, { on := 34, ground := Ground.data }], guard := none }) (v := ?_) rfl (by kernel_rfl) (by kernel_rfl) (by kernel_rfl) (fun _ _ _ h => h) (Or.inl ⟨by rfl, ?_⟩) (by assumption) ?_
                    rotate_left
                    · (intro w hSw; (try dsimp only at hSw); go_simp; with_reducible rfl)
                    try simp only [Act.put, List.setIfInBounds_toArray, List.set_cons_zero, List.set_cons_succ]
                    refine wpAnyH_done (by kernel_rfl) ?_ _
                    (clear w1 w2'; go_wp2_with fail; go_roundw; (case rel => exact ⟨i + 1, by omega, by go_num, Lib.hid (HC4.out.trans (hHeld.1.mono HC4.out.size))⟩); (case measure => simp [intOf]; omega))
                  refine AllReadyH.cons (o := { dst := some 109, op := Op.convert 9 29 (Operand.tmp 108), type := 29, pos := "law.go:162", after := #[{ on := 18, ground := Ground.data }, { on := 7, ground := Ground.guard }], guard := some (7, false) }) rfl (fun K hK => ?_) ?_
                  · go_simp
                    refine hK.out _ _ ?_ (fun hHeld2 => ?_)
                    · ((try dsimp only); first | exact MK.out _ (Below.refl _ _).drew | exact MK.out _ (hHeld.1.trans ((bytes_below _ _).mono hHeld.1.size)) | exact MK.out _ (hHeld.1.trans (hb6.mono hHeld.1.size)))
                    clear hK K hHeld; have hHeld := hHeld2; clear hHeld2
                    try simp only [Act.put, List.setIfInBounds_toArray, List.set_cons_zero, List.set_cons_succ]
                    refine wpAnyH_ready (rs := [13]) (by kernel_rfl) (by simp) ?_
                    refine AllReadyH.cons (o := { dst := some 103, op := Op.call { callee := Callee.value (Operand.func 21), args := #[Operand.const (Value.string { data := #[116] }), Operand.tmp 102], argTypes := #[9, 29] }, type := 46, pos := "law.go:162", after := #[{ on := 12, ground := Ground.data }, { on := 7, ground := Ground.chain }, { on := 7, ground := Ground.guard }], guard := some (7, false) }) rfl (fun K hK => ?_) AllReadyH.nil
                    go_simp
                    (go_at_call 21; refine (HHS.out _ _ _ (by first | exact RowOk.conv _ _ | exact (RowOk.conv _ _).step _ | (refine RowOk.below ?_ hb6; first | exact RowOk.conv _ _ | exact (RowOk.conv _ _).step _))).mono ?_; rintro e w6 ⟨rfl, hb6⟩)
                    go_wp2_with fail
                    refine hK.out _ _ ?_ (fun hHeld2 => ?_)
                    · ((try dsimp only); first | exact MK.out _ (Below.refl _ _).drew | exact MK.out _ (hHeld.1.trans ((bytes_below _ _).mono hHeld.1.size)) | exact MK.out _ (hHeld.1.trans (hb6.mono hHeld.1.size)))
                    clear hK K hHeld; have hHeld := hHeld2; clear hHeld2
                    try simp only [Act.put, List.setIfInBounds_toArray, List.set_cons_zero, List.set_cons_succ]
                    refine wpAnyH_ready (rs := [20]) (by kernel_rfl) (by simp) ?_
                    refine AllReadyH.cons (o := { dst := some 110, op := Op.call { callee := Callee.value (Operand.func 21), args := #[Operand.const (Value.string { data := #[116] }), Operand.tmp 109], argTypes := #[9, 29] }, type := 46, pos := "law.go:162", after := #[{ on := 19, ground := Ground.data }, { on := 13, ground := Ground.chain }, { on := 7, ground := Ground.guard }], guard := some (7, false) }) rfl (fun K hK => ?_) AllReadyH.nil
                    go_simp
                    (go_at_call 21; refine (HHS.out _ _ _ (by first | exact RowOk.conv _ _ | exact (RowOk.conv _ _).step _ | (refine RowOk.below ?_ hb6; first | exact RowOk.conv _ _ | exact (RowOk.conv _ _).step _))).mono ?_; rintro e w6 ⟨rfl, hb6⟩)
                    go_wp2_with fail
                    refine hK.out _ _ ?_ (fun hHeld2 => ?_)
                    · ((try dsimp only); first | exact MK.out _ (Below.refl _ _).drew | exact MK.out _ (hHeld.1.trans ((bytes_below _ _).mono hHeld.1.size)) | exact MK.out _ (hHeld.1.trans (hb6.mono hHeld.1.size)))
                    clear hK K hHeld; have hHeld := hHeld2; clear hHeld2
                    try simp only [Act.put, List.setIfInBounds_toArray, List.set_cons_zero, List.set_cons_succ]
                    refine wpAnyH_take (i := 21) (oi := { dst := some 111, op := Op.binOp BinOp.neq 46 (Operand.tmp 103) (Operand.tmp 110) 46, type := 4, pos := "law.go:162", after := #[{ on := 13, ground := Ground.data }, { on := 20, ground := Ground.data }, { on := 7, ground := Ground.guard }], guard := some (7, false) }) (v := ?_) rfl (by kernel_rfl) (by kernel_rfl) (by kernel_rfl) (fun _ _ _ h => h) (Or.inl ⟨by rfl, ?_⟩) (by assumption) ?_
                    rotate_left
                    · (intro w hSw; (try dsimp only at hSw); go_simp; with_reducible rfl)
                    try simp only [Act.put, List.setIfInBounds_toArray, List.set_cons_zero, List.set_cons_succ]
                    refine wpAnyH_take (i := 22) (oi := { dst := some 112, op := Op.pick (Operand.tmp 97) (Operand.const (Value.bool true)) (Operand.tmp 111), type := 4, pos := "law.go:162", after := #[{ on := 7, ground := Ground.data }, { on := 21, ground := Ground.data }], guard := none }) (v := ?_) rfl (by kernel_rfl) (by kernel_rfl) (by kernel_rfl) (fun _ _ _ h => h) (Or.inl ⟨by rfl, ?_⟩) (by assumption) ?_
                    rotate_left
                    · (intro w hSw; (try dsimp only at hSw); go_simp; with_reducible rfl)
                    try simp only [Act.put, List.setIfInBounds_toArray, List.set_cons_zero, List.set_cons_succ]
                    refine wpAnyH_take (i := 23) (oi := { dst := some 113, op := Op.move (Operand.tmp 112), type := 4, pos := "law.go:162", after := #[{ on := 22, ground := Ground.data }, { on := 20, ground := Ground.chain }], guard := none }) (v := ?_) rfl (by kernel_rfl) (by kernel_rfl) (by kernel_rfl) (fun _ _ _ h => h) (Or.inl ⟨by rfl, ?_⟩) (by assumption) ?_
                    rotate_left
                    · (intro w hSw; (try dsimp only at hSw); go_simp; with_reducible rfl)
                    try simp only [Act.put, List.setIfInBounds_toArray, List.set_cons_zero, List.set_cons_succ]
                    refine wpAnyH_take (i := 24) (oi := { dst := some 114, op := Op.move (Operand.tmp 9), type := 33, pos := "law.go:162", after := #[{ on := 23, ground := Ground.guard }], guard := some (23, false) }) (v := ?_) rfl (by kernel_rfl) (by kernel_rfl) (by kernel_rfl) (fun _ _ _ h => h) (Or.inl ⟨by rfl, ?_⟩) (by assumption) ?_
                    rotate_left
                    · (intro w hSw; (try dsimp only at hSw); go_simp; with_reducible rfl)
                    try simp only [Act.put, List.setIfInBounds_toArray, List.set_cons_zero, List.set_cons_succ]
                    refine wpAnyH_take (i := 25) (oi := { dst := some 115, op := Op.indexAddr 33 (Operand.tmp 114) (Operand.const (Value.int IntKind.i64 1)), type := 0, pos := "law.go:162", after := #[{ on := 24, ground := Ground.data }, { on := 23, ground := Ground.guard }], guard := some (23, false) }) (v := ?_) rfl (by kernel_rfl) (by kernel_rfl) (by kernel_rfl) (fun _ _ _ h => h) (Or.inl ⟨by rfl, ?_⟩) (by assumption) ?_
                    rotate_left
                    · (intro w hSw; (try dsimp only at hSw); go_simp; with_reducible rfl)
                    try simp only [Act.put, List.setIfInBounds_toArray, List.set_cons_zero, List.set_cons_succ]
                    refine wpAnyH_take (i := 26) (oi := { dst := some 116, op := Op.fieldAddr 38 (Operand.tmp 115) 3, type := 0, pos := "law.go:162", after := #[{ on := 25, ground := Ground.data }, { on := 23, ground := Ground.guard }], guard := some (23, false) }) (v := ?_) rfl (by kernel_rfl) (by kernel_rfl) (by kernel_rfl) (fun _ _ _ h => h) (Or.inl ⟨by rfl, ?_⟩) (by assumption) ?_
                    rotate_left
                    · (intro w hSw; (try dsimp only at hSw); go_simp; with_reducible rfl)
                    try simp only [Act.put, List.setIfInBounds_toArray, List.set_cons_zero, List.set_cons_succ]
                    refine wpAnyH_take (i := 27) (oi := { dst := some 117, op := Op.load 9 (Operand.tmp 116), type := 9, pos := "law.go:162", after := #[{ on := 26, ground := Ground.data }, { on := 23, ground := Ground.guard }], guard := some (23, false) }) (v := ?_) rfl (by kernel_rfl) (by kernel_rfl) (by kernel_rfl) (fun _ _ _ h => h) (Or.inl ⟨by rfl, ?_⟩) (by assumption) ?_
                    rotate_left
                    · (intro w hSw; (try dsimp only at hSw); go_simp; with_reducible rfl)
                    try simp only [Act.put, List.setIfInBounds_toArray, List.set_cons_zero, List.set_cons_succ]
                    refine wpAnyH_take (i := 28) (oi := { dst := some 118, op := Op.move (Operand.tmp 5), type := 33, pos := "law.go:162", after := #[{ on := 23, ground := Ground.guard }], guard := some (23, false) }) (v := ?_) rfl (by kernel_rfl) (by kernel_rfl) (by kernel_rfl) (fun _ _ _ h => h) (Or.inl ⟨by rfl, ?_⟩) (by assumption) ?_
                    rotate_left
                    · (intro w hSw; (try dsimp only at hSw); go_simp; with_reducible rfl)
                    try simp only [Act.put, List.setIfInBounds_toArray, List.set_cons_zero, List.set_cons_succ]
                    refine wpAnyH_take (i := 29) (oi := { dst := some 119, op := Op.move (Operand.tmp 8), type := 3, pos := "law.go:162", after := #[{ on := 23, ground := Ground.guard }], guard := some (23, false) }) (v := ?_) rfl (by kernel_rfl) (by kernel_rfl) (by kernel_rfl) (fun _ _ _ h => h) (Or.inl ⟨by rfl, ?_⟩) (by assumption) ?_
                    rotate_left
                    · (intro w hSw; (try dsimp only at hSw); go_simp; with_reducible rfl)
                    try simp only [Act.put, List.setIfInBounds_toArray, List.set_cons_zero, List.set_cons_succ]
                    refine wpAnyH_take (i := 30) (oi := { dst := some 120, op := Op.binOp BinOp.add 3 (Operand.tmp 119) (Operand.const (Value.int IntKind.i64 1)) 3, type := 3, pos := "law.go:162", after := #[{ on := 29, ground := Ground.data }, { on := 23, ground := Ground.guard }], guard := some (23, false) }) (v := ?_) rfl (by kernel_rfl) (by kernel_rfl) (by kernel_rfl) (fun _ _ _ h => h) (Or.inl ⟨by rfl, ?_⟩) (by assumption) ?_
                    rotate_left
                    · (intro w hSw; (try dsimp only at hSw); go_simp; with_reducible rfl)
                    try simp only [Act.put, List.setIfInBounds_toArray, List.set_cons_zero, List.set_cons_succ]
                    refine wpAnyH_take (i := 31) (oi := { dst := some 121, op := Op.indexAddr 33 (Operand.tmp 118) (Operand.tmp 120), type := 0, pos := "law.go:162", after := #[{ on := 28, ground := Ground.data }, { on := 30, ground := Ground.data }, { on := 23, ground := Ground.guard }], guard := some (23, false) }) (v := ?_) rfl (by kernel_rfl) (by kernel_rfl) (by kernel_rfl) (fun _ _ _ h => h) (Or.inl ⟨by rfl, ?_⟩) (by assumption) ?_
                    rotate_left
                    · (intro w hSw; (try dsimp only at hSw); go_simp; with_reducible rfl)
                    try simp only [Act.put, List.setIfInBounds_toArray, List.set_cons_zero, List.set_cons_succ]
                    refine wpAnyH_take (i := 32) (oi := { dst := some 122, op := Op.fieldAddr 38 (Operand.tmp 121) 3, type := 0, pos := "law.go:162", after := #[{ on := 31, ground := Ground.data }, { on := 23, ground := Ground.guard }], guard := some (23, false) }) (v := ?_) rfl (by kernel_rfl) (by kernel_rfl) (by kernel_rfl) (fun _ _ _ h => h) (Or.inl ⟨by rfl, ?_⟩) (by assumption) ?_
                    rotate_left
                    · (intro w hSw; (try dsimp only at hSw); go_simp; with_reducible rfl)
                    try simp only [Act.put, List.setIfInBounds_toArray, List.set_cons_zero, List.set_cons_succ]
                    refine wpAnyH_take (i := 33) (oi := { dst := some 123, op := Op.load 9 (Operand.tmp 122), type := 9, pos := "law.go:162", after := #[{ on := 32, ground := Ground.data }, { on := 23, ground := Ground.guard }], guard := some (23, false) }) (v := ?_) rfl (by kernel_rfl) (by kernel_rfl) (by kernel_rfl) (fun _ _ _ h => h) (Or.inl ⟨by rfl, ?_⟩) (by assumption) ?_
                    rotate_left
                    · (intro w hSw; (try dsimp only at hSw); go_simp; with_reducible rfl)
                    try simp only [Act.put, List.setIfInBounds_toArray, List.set_cons_zero, List.set_cons_succ]
                    refine wpAnyH_take (i := 34) (oi := { dst := some 124, op := Op.binOp BinOp.neq 9 (Operand.tmp 117) (Operand.tmp 123) 9, type := 4, pos := "law.go:162", after := #[{ on := 27, ground := Ground.data }, { on := 33, ground := Ground.data }, { on := 23, ground := Ground.guard }], guard := some (23, false) }) (v := ?_) rfl (by kernel_rfl) (by kernel_rfl) (by kernel_rfl) (fun _ _ _ h => h) (Or.inl ⟨by rfl, ?_⟩) (by assumption) ?_
                    rotate_left
                    · (intro w hSw; (try dsimp only at hSw); go_simp; with_reducible rfl)
                    try simp only [Act.put, List.setIfInBounds_toArray, List.set_cons_zero, List.set_cons_succ]
                    refine wpAnyH_take (i := 35) (oi := { dst := some 125, op := Op.pick (Operand.tmp 113) (Operand.const (Value.bool true)) (Operand.tmp 124), type := 4, pos := "law.go:162", after := #[{ on := 23, ground := Ground.data }, { on := 34, ground := Ground.data }], guard := none }) (v := ?_) rfl (by kernel_rfl) (by kernel_rfl) (by kernel_rfl) (fun _ _ _ h => h) (Or.inl ⟨by rfl, ?_⟩) (by assumption) ?_
                    rotate_left
                    · (intro w hSw; (try dsimp only at hSw); go_simp; with_reducible rfl)
                    try simp only [Act.put, List.setIfInBounds_toArray, List.set_cons_zero, List.set_cons_succ]
                    refine wpAnyH_done (by kernel_rfl) ?_ _
                    (clear w1 w2'; go_wp2_with fail; go_roundw; (case rel => exact ⟨i + 1, by omega, by go_num, Lib.hid (HC4.out.trans (hHeld.1.mono HC4.out.size))⟩); (case measure => simp [intOf]; omega))
                  exact AllReadyH.nil
                refine AllReadyH.cons (o := { dst := some 109, op := Op.convert 9 29 (Operand.tmp 108), type := 29, pos := "law.go:162", after := #[{ on := 18, ground := Ground.data }, { on := 7, ground := Ground.guard }], guard := some (7, false) }) rfl (fun K hK => ?_) ?_
                · go_simp
                  refine hK.out _ _ ?_ (fun hHeld2 => ?_)
                  · ((try dsimp only); first | exact MK.out _ (Below.refl _ _).drew | exact MK.out _ (hHeld.1.trans ((bytes_below _ _).mono hHeld.1.size)) | exact MK.out _ (hHeld.1.trans (hb6.mono hHeld.1.size)))
                  clear hK K hHeld; have hHeld := hHeld2; clear hHeld2
                  try simp only [Act.put, List.setIfInBounds_toArray, List.set_cons_zero, List.set_cons_succ]
                  refine wpAnyH_ready (rs := [12]) (by kernel_rfl) (by simp) ?_
                  refine AllReadyH.cons (o := { dst := some 102, op := Op.convert 9 29 (Operand.tmp 101), type := 29, pos := "law.go:162", after := #[{ on := 11, ground := Ground.data }, { on := 7, ground := Ground.guard }], guard := some (7, false) }) rfl (fun K hK => ?_) AllReadyH.nil
                  go_simp
                  refine hK.out _ _ ?_ (fun hHeld2 => ?_)
                  · ((try dsimp only); first | exact MK.out _ (Below.refl _ _).drew | exact MK.out _ (hHeld.1.trans ((bytes_below _ _).mono hHeld.1.size)) | exact MK.out _ (hHeld.1.trans (hb6.mono hHeld.1.size)))
                  clear hK K hHeld; have hHeld := hHeld2; clear hHeld2
                  try simp only [Act.put, List.setIfInBounds_toArray, List.set_cons_zero, List.set_cons_succ]
                  refine wpAnyH_ready (rs := [13]) (by kernel_rfl) (by simp) ?_
                  refine AllReadyH.cons (o := { dst := some 103, op := Op.call { callee := Callee.value (Operand.func 21), args := #[Operand.const (Value.string { data := #[116] }), Operand.tmp 102], argTypes := #[9, 29] }, type := 46, pos := "law.go:162", after := #[{ on := 12, ground := Ground.data }, { on := 7, ground := Ground.chain }, { on := 7, ground := Ground.guard }], guard := some (7, false) }) rfl (fun K hK => ?_) AllReadyH.nil
                  go_simp
                  (go_at_call 21; refine (HHS.out _ _ _ (by first | exact RowOk.conv _ _ | exact (RowOk.conv _ _).step _ | (refine RowOk.below ?_ hb6; first | exact RowOk.conv _ _ | exact (RowOk.conv _ _).step _))).mono ?_; rintro e w6 ⟨rfl, hb6⟩)
                  go_wp2_with fail
                  refine hK.out _ _ ?_ (fun hHeld2 => ?_)
                  · ((try dsimp only); first | exact MK.out _ (Below.refl _ _).drew | exact MK.out _ (hHeld.1.trans ((bytes_below _ _).mono hHeld.1.size)) | exact MK.out _ (hHeld.1.trans (hb6.mono hHeld.1.size)))
                  clear hK K hHeld; have hHeld := hHeld2; clear hHeld2
                  try simp only [Act.put, List.setIfInBounds_toArray, List.set_cons_zero, List.set_cons_succ]
                  refine wpAnyH_ready (rs := [20]) (by kernel_rfl) (by simp) ?_
                  refine AllReadyH.cons (o := { dst := some 110, op := Op.call { callee := Callee.value (Operand.func 21), args := #[Operand.const (Value.string { data := #[116] }), Operand.tmp 109], argTypes := #[9, 29] }, type := 46, pos := "law.go:162", after := #[{ on := 19, ground := Ground.data }, { on := 13, ground := Ground.chain }, { on := 7, ground := Ground.guard }], guard := some (7, false) }) rfl (fun K hK => ?_) AllReadyH.nil
                  go_simp
                  (go_at_call 21; refine (HHS.out _ _ _ (by first | exact RowOk.conv _ _ | exact (RowOk.conv _ _).step _ | (refine RowOk.below ?_ hb6; first | exact RowOk.conv _ _ | exact (RowOk.conv _ _).step _))).mono ?_; rintro e w6 ⟨rfl, hb6⟩)
                  go_wp2_with fail
                  refine hK.out _ _ ?_ (fun hHeld2 => ?_)
                  · ((try dsimp only); first | exact MK.out _ (Below.refl _ _).drew | exact MK.out _ (hHeld.1.trans ((bytes_below _ _).mono hHeld.1.size)) | exact MK.out _ (hHeld.1.trans (hb6.mono hHeld.1.size)))
                  clear hK K hHeld; have hHeld := hHeld2; clear hHeld2
                  try simp only [Act.put, List.setIfInBounds_toArray, List.set_cons_zero, List.set_cons_succ]
                  refine wpAnyH_take (i := 21) (oi := { dst := some 111, op := Op.binOp BinOp.neq 46 (Operand.tmp 103) (Operand.tmp 110) 46, type := 4, pos := "law.go:162", after := #[{ on := 13, ground := Ground.data }, { on := 20, ground := Ground.data }, { on := 7, ground := Ground.guard }], guard := some (7, false) }) (v := ?_) rfl (by kernel_rfl) (by kernel_rfl) (by kernel_rfl) (fun _ _ _ h => h) (Or.inl ⟨by rfl, ?_⟩) (by assumption) ?_
                  rotate_left
                  · (intro w hSw; (try dsimp only at hSw); go_simp; with_reducible rfl)
                  try simp only [Act.put, List.setIfInBounds_toArray, List.set_cons_zero, List.set_cons_succ]
                  refine wpAnyH_take (i := 22) (oi := { dst := some 112, op := Op.pick (Operand.tmp 97) (Operand.const (Value.bool true)) (Operand.tmp 111), type := 4, pos := "law.go:162", after := #[{ on := 7, ground := Ground.data }, { on := 21, ground := Ground.data }], guard := none }) (v := ?_) rfl (by kernel_rfl) (by kernel_rfl) (by kernel_rfl) (fun _ _ _ h => h) (Or.inl ⟨by rfl, ?_⟩) (by assumption) ?_
                  rotate_left
                  · (intro w hSw; (try dsimp only at hSw); go_simp; with_reducible rfl)
                  try simp only [Act.put, List.setIfInBounds_toArray, List.set_cons_zero, List.set_cons_succ]
                  refine wpAnyH_take (i := 23) (oi := { dst := some 113, op := Op.move (Operand.tmp 112), type := 4, pos := "law.go:162", after := #[{ on := 22, ground := Ground.data }, { on := 20, ground := Ground.chain }], guard := none }) (v := ?_) rfl (by kernel_rfl) (by kernel_rfl) (by kernel_rfl) (fun _ _ _ h => h) (Or.inl ⟨by rfl, ?_⟩) (by assumption) ?_
                  rotate_left
                  · (intro w hSw; (try dsimp only at hSw); go_simp; with_reducible rfl)
                  try simp only [Act.put, List.setIfInBounds_toArray, List.set_cons_zero, List.set_cons_succ]
                  refine wpAnyH_take (i := 24) (oi := { dst := some 114, op := Op.move (Operand.tmp 9), type := 33, pos := "law.go:162", after := #[{ on := 23, ground := Ground.guard }], guard := some (23, false) }) (v := ?_) rfl (by kernel_rfl) (by kernel_rfl) (by kernel_rfl) (fun _ _ _ h => h) (Or.inl ⟨by rfl, ?_⟩) (by assumption) ?_
                  rotate_left
                  · (intro w hSw; (try dsimp only at hSw); go_simp; with_reducible rfl)
                  try simp only [Act.put, List.setIfInBounds_toArray, List.set_cons_zero, List.set_cons_succ]
                  refine wpAnyH_take (i := 25) (oi := { dst := some 115, op := Op.indexAddr 33 (Operand.tmp 114) (Operand.const (Value.int IntKind.i64 1)), type := 0, pos := "law.go:162", after := #[{ on := 24, ground := Ground.data }, { on := 23, ground := Ground.guard }], guard := some (23, false) }) (v := ?_) rfl (by kernel_rfl) (by kernel_rfl) (by kernel_rfl) (fun _ _ _ h => h) (Or.inl ⟨by rfl, ?_⟩) (by assumption) ?_
                  rotate_left
                  · (intro w hSw; (try dsimp only at hSw); go_simp; with_reducible rfl)
                  try simp only [Act.put, List.setIfInBounds_toArray, List.set_cons_zero, List.set_cons_succ]
                  refine wpAnyH_take (i := 26) (oi := { dst := some 116, op := Op.fieldAddr 38 (Operand.tmp 115) 3, type := 0, pos := "law.go:162", after := #[{ on := 25, ground := Ground.data }, { on := 23, ground := Ground.guard }], guard := some (23, false) }) (v := ?_) rfl (by kernel_rfl) (by kernel_rfl) (by kernel_rfl) (fun _ _ _ h => h) (Or.inl ⟨by rfl, ?_⟩) (by assumption) ?_
                  rotate_left
                  · (intro w hSw; (try dsimp only at hSw); go_simp; with_reducible rfl)
                  try simp only [Act.put, List.setIfInBounds_toArray, List.set_cons_zero, List.set_cons_succ]
                  refine wpAnyH_take (i := 27) (oi := { dst := some 117, op := Op.load 9 (Operand.tmp 116), type := 9, pos := "law.go:162", after := #[{ on := 26, ground := Ground.data }, { on := 23, ground := Ground.guard }], guard := some (23, false) }) (v := ?_) rfl (by kernel_rfl) (by kernel_rfl) (by kernel_rfl) (fun _ _ _ h => h) (Or.inl ⟨by rfl, ?_⟩) (by assumption) ?_
                  rotate_left
                  · (intro w hSw; (try dsimp only at hSw); go_simp; with_reducible rfl)
                  try simp only [Act.put, List.setIfInBounds_toArray, List.set_cons_zero, List.set_cons_succ]
                  refine wpAnyH_take (i := 28) (oi := { dst := some 118, op := Op.move (Operand.tmp 5), type := 33, pos := "law.go:162", after := #[{ on := 23, ground := Ground.guard }], guard := some (23, false) }) (v := ?_) rfl (by kernel_rfl) (by kernel_rfl) (by kernel_rfl) (fun _ _ _ h => h) (Or.inl ⟨by rfl, ?_⟩) (by assumption) ?_
                  rotate_left
                  · (intro w hSw; (try dsimp only at hSw); go_simp; with_reducible rfl)
                  try simp only [Act.put, List.setIfInBounds_toArray, List.set_cons_zero, List.set_cons_succ]
                  refine wpAnyH_take (i := 29) (oi := { dst := some 119, op := Op.move (Operand.tmp 8), type := 3, pos := "law.go:162", after := #[{ on := 23, ground := Ground.guard }], guard := some (23, false) }) (v := ?_) rfl (by kernel_rfl) (by kernel_rfl) (by kernel_rfl) (fun _ _ _ h => h) (Or.inl ⟨by rfl, ?_⟩) (by assumption) ?_
                  rotate_left
                  · (intro w hSw; (try dsimp only at hSw); go_simp; with_reducible rfl)
                  try simp only [Act.put, List.setIfInBounds_toArray, List.set_cons_zero, List.set_cons_succ]
                  refine wpAnyH_take (i := 30) (oi := { dst := some 120, op := Op.binOp BinOp.add 3 (Operand.tmp 119) (Operand.const (Value.int IntKind.i64 1)) 3, type := 3, pos := "law.go:162", after := #[{ on := 29, ground := Ground.data }, { on := 23, ground := Ground.guard }], guard := some (23, false) }) (v := ?_) rfl (by kernel_rfl) (by kernel_rfl) (by kernel_rfl) (fun _ _ _ h => h) (Or.inl ⟨by rfl, ?_⟩) (by assumption) ?_
                  rotate_left
                  · (intro w hSw; (try dsimp only at hSw); go_simp; with_reducible rfl)
                  try simp only [Act.put, List.setIfInBounds_toArray, List.set_cons_zero, List.set_cons_succ]
                  refine wpAnyH_take (i := 31) (oi := { dst := some 121, op := Op.indexAddr 33 (Operand.tmp 118) (Operand.tmp 120), type := 0, pos := "law.go:162", after := #[{ on := 28, ground := Ground.data }, { on := 30, ground := Ground.data }, { on := 23, ground := Ground.guard }], guard := some (23, false) }) (v := ?_) rfl (by kernel_rfl) (by kernel_rfl) (by kernel_rfl) (fun _ _ _ h => h) (Or.inl ⟨by rfl, ?_⟩) (by assumption) ?_
                  rotate_left
                  · (intro w hSw; (try dsimp only at hSw); go_simp; with_reducible rfl)
                  try simp only [Act.put, List.setIfInBounds_toArray, List.set_cons_zero, List.set_cons_succ]
                  refine wpAnyH_take (i := 32) (oi := { dst := some 122, op := Op.fieldAddr 38 (Operand.tmp 121) 3, type := 0, pos := "law.go:162", after := #[{ on := 31, ground := Ground.data }, { on := 23, ground := Ground.guard }], guard := some (23, false) }) (v := ?_) rfl (by kernel_rfl) (by kernel_rfl) (by kernel_rfl) (fun _ _ _ h => h) (Or.inl ⟨by rfl, ?_⟩) (by assumption) ?_
                  rotate_left
                  · (intro w hSw; (try dsimp only at hSw); go_simp; with_reducible rfl)
                  try simp only [Act.put, List.setIfInBounds_toArray, List.set_cons_zero, List.set_cons_succ]
                  refine wpAnyH_take (i := 33) (oi := { dst := some 123, op := Op.load 9 (Operand.tmp 122), type := 9, pos := "law.go:162", after := #[{ on := 32, ground := Ground.data }, { on := 23, ground := Ground.guard }], guard := some (23, false) }) (v := ?_) rfl (by kernel_rfl) (by kernel_rfl) (by kernel_rfl) (fun _ _ _ h => h) (Or.inl ⟨by rfl, ?_⟩) (by assumption) ?_
                  rotate_left
                  · (intro w hSw; (try dsimp only at hSw); go_simp; with_reducible rfl)
                  try simp only [Act.put, List.setIfInBounds_toArray, List.set_cons_zero, List.set_cons_succ]
                  refine wpAnyH_take (i := 34) (oi := { dst := some 124, op := Op.binOp BinOp.neq 9 (Operand.tmp 117) (Operand.tmp 123) 9, type := 4, pos := "law.go:162", after := #[{ on := 27, ground := Ground.data }, { on := 33, ground := Ground.data }, { on := 23, ground := Ground.guard }], guard := some (23, false) }) (v := ?_) rfl (by kernel_rfl) (by kernel_rfl) (by kernel_rfl) (fun _ _ _ h => h) (Or.inl ⟨by rfl, ?_⟩) (by assumption) ?_
                  rotate_left
                  · (intro w hSw; (try dsimp only at hSw); go_simp; with_reducible rfl)
                  try simp only [Act.put, List.setIfInBounds_toArray, List.set_cons_zero, List.set_cons_succ]
                  refine wpAnyH_take (i := 35) (oi := { dst := some 125, op := Op.pick (Operand.tmp 113) (Operand.const (Value.bool true)) (Operand.tmp 124), type := 4, pos := "law.go:162", after := #[{ on := 23, ground := Ground.data }, { on := 34, ground := Ground.data }], guard := none }) (v := ?_) rfl (by kernel_rfl) (by kernel_rfl) (by kernel_rfl) (fun _ _ _ h => h) (Or.inl ⟨by rfl, ?_⟩) (by assumption) ?_
                  rotate_left
                  · (intro w hSw; (try dsimp only at hSw); go_simp; with_reducible rfl)
                  try simp only [Act.put, List.setIfInBounds_toArray, List.set_cons_zero, List.set_cons_succ]
                  refine wpAnyH_done (by kernel_rfl) ?_ _
                  (clear w1 w2'; go_wp2_with fail; go_roundw; (case rel => exact ⟨i + 1, by omega, by go_num, Lib.hid (HC4.out.trans (hHeld.1.mono HC4.out.size))⟩); (case measure => simp [intOf]; omega))
                exact AllReadyH.nil
              · have hne : (((ai : Int) + (tx.size : Int)) != (aj : Int)) = true := by rw [bne_iff_ne]; omega
                go_wp2_with fail
                go_quiet (fail)
                go_wp2_with fail
                go_roundw
                case rel => exact ⟨i + 1, by omega, by go_num, Lib.hid (bdn HC.out _)⟩
                case measure => simp [intOf]; omega
            · go_wp2_with fail
              refine (lives_any _ (HR.out.below (B2.out.trans (HC.out.mono B2.out.size)))).mono ?_
              rintro e5 w5 ⟨rfl, hb5⟩
              have B5 := Lib.hid ((B2.out.trans (HC.out.mono B2.out.size)).trans (hb5.mono (Nat.le_trans B2.out.size HC.out.size)))
              clear hb5
              go_wp2_with fail
              go_ret
              exact ⟨rfl, B5.out⟩
        · go_wp2_with fail
          refine (lives_any _ (HR.out.below B2.out)).mono ?_
          rintro e5 w5 ⟨rfl, hb5⟩
          have B5 := Lib.hid (B2.out.trans (hb5.mono B2.out.size))
          clear hb5
          go_wp2_with fail
          go_ret
          exact ⟨rfl, B5.out⟩
        · go_wp2_with fail
          refine (lives_any _ (HR.out.below B2.out)).mono ?_
          rintro e5 w5 ⟨rfl, hb5⟩
          have B5 := Lib.hid (B2.out.trans (hb5.mono B2.out.size))
          clear hb5
          go_wp2_with fail
          go_ret
          exact ⟨rfl, B5.out⟩

end Go.Proofs.YtgmlghmlmfbfjaaDoor
