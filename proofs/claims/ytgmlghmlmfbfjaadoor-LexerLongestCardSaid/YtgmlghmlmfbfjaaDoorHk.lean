/- hash: Bytes. -/
import Derived.Test.YtgmlghmlmfbfjaaDoorHj
namespace Go.Proofs.YtgmlghmlmfbfjaaDoor
open Go Go.RowKit Go.Shelf
attribute [local go_sem] Oper.semAt_some

theorem Tryd.info3 : (Tryd.prog.info? 3).map (fun i => (i.zero, i.size, i.bytes)) = some (some (.int .i64 0), 1, 8) := by kernel_rfl
theorem wrap_ok (x : Int) : I64 (wrap64 x) := by
  unfold I64 wrap64; omega
theorem intSl_of_own {w : World} {B : Nat} {v : Value} {l : List Int} (h : w.ownsRow B 3 1 v l.length (l.map (Value.int .i64))) (hl : ∀ x ∈ l, I64 x) (hm : l.length ≤ maxLen) : IntSl w v l := by
  rcases h.2 with ⟨rfl, h0⟩ | ⟨g, cap, cur, rfl, hb, hg, hn, hc, hs, ht⟩
  · have hl0 : l = [] := List.eq_nil_of_length_eq_zero h0
    subst hl0
    exact ⟨none, 0, rfl, Nat.le_refl _, Nat.zero_le _, fun k => by simp [I64], fun h => absurd h (Nat.not_lt_zero _)⟩
  · refine ⟨_, cap, rfl, hn, hm, fun k => ?_, fun _ => ⟨⟨g, 0, none⟩, rfl, (Array.getElem?_eq_some_iff.1 hg).1, fun k hk => ?_⟩⟩
    · rcases Nat.lt_or_ge k l.length with hk | hk
      · rw [List.getD_eq_getElem?_getD, List.getElem?_eq_getElem hk]; exact hl _ (List.getElem_mem hk)
      · rw [List.getD_eq_getElem?_getD, List.getElem?_eq_none hk]; simp [I64]
    · refine h.cells (g := g) rfl k _ ?_
      rw [List.getElem?_map, List.getD_eq_getElem?_getD, List.getElem?_eq_getElem hk]; rfl

theorem wordsB_stops (n : Nat) (h1 : 1 ≤ n) (Bn m : Nat) (bs : List UInt8) (hs : bs.length ≤ 8192) (v : Value) (w : World) (hm : m ≤ w.heap.size) (hBn : Boxed w Bn 29 v) (hv : ByteSl m w v bs) :
    SeqStopsK Fence.wide n Tryd.prog 39 #[.pointer (some ⟨Bn, 0, none⟩)] (fun x : Int => #[Value.int .u64 x]) (KeepB m Bn) (fun ys => ys = wordsOf bs) (fun _ => True) bs.length w :=
  fun l J Jx W hW _ _ hY h0 => wordsB_in n h1 l Bn m bs hs v J Jx W hY ((hW.block Bn hBn.lt).trans hBn) (by
    obtain ⟨A, c, h1, h3⟩ := hv
    refine ⟨A, c, h1, fun h => ?_⟩
    obtain ⟨g, e, hg, hc⟩ := h3 h
    exact ⟨g, e, hg, fun k hk => (hW.cell (p := ⟨g, k, none⟩) (by show g < _; omega)).trans (hc k hk)⟩) h0

noncomputable def bytesL (bs : List UInt8) : List Int := (wordsOf bs).map wrap64 ++ [(bs.length : Int)]
noncomputable def bytesF (lab bs : List UInt8) : Int := sumF lab (bytesL bs)
theorem wordsL_len : ∀ (f : Nat) (bs : List UInt8), (wordsL f bs).length ≤ f
  | 0, _ => Nat.le_refl _
  | f + 1, [] => Nat.zero_le _
  | f + 1, c :: r => by
    have := wordsL_len f ((c :: r).drop 8)
    rw [wordsL, List.length_cons]; omega

set_option maxRecDepth 100000 in
set_option maxHeartbeats 4000000 in
theorem bytes_in (n : Nat) (hn : 7 ≤ n) (s : ByteArray) (hs : s.size ≤ 8192) (bs : List UInt8) (hbs : bs.length ≤ 8192) (v : Value) (w : World) (hv : ByteSl w.heap.size w v bs) :
    CallsIn Fence.wide n Tryd.prog 21 #[.string s, v] w fun e W' => e = .returned (.int .u64 (bytesF s.data.toList bs)) ∧ Below w.heap.size w W' := by
  obtain ⟨A, c, rfl, hcell⟩ := hv
  have hv : ByteSl w.heap.size w (.slice A bs.length c) bs := ⟨A, c, rfl, hcell⟩
  have h1 : 1 ≤ n := by omega
  obtain ⟨i0, hi, hz0, hz1, hz2⟩ := info_parts Tryd.info3
  have HV0 := Lib.hid hv
  clear hv hcell
  refine callsIn_of_wp_marks Tryd.func21 rfl trivial ?_ rfl
  simp only [Tryd.ntmps21, List.size_toArray, List.length_cons, List.length_nil, Nat.reduceAdd, Nat.reduceSub, Array.replicate_succ, Array.replicate_zero, List.push_toArray, List.append_toArray, List.nil_append, List.cons_append]
  gi_wp2_with (refine ⟨trivial, ?_⟩; gi_at_call 25; refine (wordsB25 (n - 1) _ A bs.length c rfl _).mono ?_; rintro e w' ⟨rfl, rfl⟩)
  have bS := Boxed.new w 22 (.slice none 0 0)
  have bN := Boxed.new (w.alloc (.cells #[.slice none 0 0] 22)) 29 (.slice A bs.length c)
  rw [World.size_alloc] at bN
  have hB0 : Below w.heap.size w ((w.alloc (.cells #[.slice none 0 0] 22)).alloc (.cells #[.slice A bs.length c] 29)) := ((Below.refl _ w).alloc (Nat.le_refl _) _).alloc (by simp) _
  obtain ⟨W0, hW0⟩ : ∃ W0, (w.alloc (.cells #[.slice none 0 0] 22)).alloc (.cells #[.slice A bs.length c] 29) = W0 := ⟨_, rfl⟩
  have hsz : W0.heap.size = w.heap.size + 2 := by rw [← hW0]; simp
  have bS0 : Boxed W0 w.heap.size 22 (.slice none 0 0) := by rw [← hW0]; exact bS.alloc _
  rw [hW0] at bN hB0 ⊢
  clear hW0 bS
  have hv0 : ByteSl w.heap.size W0 (.slice A bs.length c) bs := by
    obtain ⟨A', c', e, h3⟩ := HV0.out
    refine ⟨A', c', e, fun h => ?_⟩
    obtain ⟨g, e, hg, hc⟩ := h3 h
    exact ⟨g, e, hg, fun k hk => (hB0.cell (p := ⟨g, k, none⟩) hg).trans (hc k hk)⟩
  have HS := wordsB_stops (n - 1) (by omega) (w.heap.size + 1) w.heap.size bs hbs _ W0 (by omega) bN hv0
  clear hv0
  refine wpIn_rangeFunc_ownF rfl h1 (gf := 39) (lb := #[.pointer (some ⟨w.heap.size + 1, 0, none⟩)]) rfl trivial (enters_of Tryd.func39 (by kernel_rfl) rfl)
    HS (fun h k => ⟨h.1.trans k.1, k.2.trans h.2⟩) (fun W l o o' hl ho hc hw => ⟨belowK_b (w := W0) (by omega) W l o o' hl ho hc hw, World.putObj_heap_other (by omega)⟩) (Below.refl _ _) (fun _ => rfl)
    (fun pre W => (∃ v, Boxed W w.heap.size 22 v ∧ W.ownsRow w.heap.size 3 1 v (pre.map wrap64).length ((pre.map wrap64).map (Value.int .i64)) ∧ True) ∧ (Boxed W (w.heap.size + 1) 29 (.slice A bs.length c) ∧ Below w.heap.size w W)) (fun _ _ _ => False)
    (OwnFrom.and (Own.from (holdsRow_own w.heap.size w.heap.size 22 3 1 (fun pre : List Int => (pre.map wrap64).length) (fun pre => (pre.map wrap64).map (Value.int .i64)) (fun _ _ => True)) _) (OwnFrom.and (Own.from (boxed_own (w.heap.size + 1) 29 (fun _ : List Int => Value.slice A bs.length c)) _) (ownFrom_below (Nat.le_refl _) (by omega))))
    (fun _ _ _ _ _ hs _ _ => hs)
    ⟨⟨_, bS0, World.ownsRow_nil _ _ _ _, trivial⟩, bN, hB0⟩
    (fun x => { tmps := #[.string s, .slice A bs.length c, undef, undef, .int .u64 0, .pointer (some ⟨w.heap.size, 0, none⟩), .int .u64 x, .slice A bs.length c, .func (.func 39) #[] #[.pointer (some ⟨w.heap.size + 1, 0, none⟩)], .int .u64 x, undef, undef, undef, undef, undef, undef, undef, undef, undef, undef, undef, undef], defers := [] })
    ?assign ?body ?done ?stop
  case assign =>
    intro l x W K hK
    gi_wp2
    exact hK
  case body =>
    rintro l pre x W ⟨⟨u, hb, hrow, _⟩, hN, hB⟩ hlen
    have hc1 := hb.cell
    have hf1 := hb.frozen
    have HB := Lib.hid hB
    have HN := Lib.hid hN
    rw [List.length_map] at hrow
    have HR := Lib.hid hrow
    have HBX := Lib.hid hb
    have hws : w.heap.size ≤ W.heap.size := hB.size
    clear hB hN hrow hb
    have hd : 1 ≤ n - 1 - 1 := by omega
    have hc3 : pre.length + 1 ≤ maxLen := by unfold maxLen; omega
    have hc4 : (pre.length + 1) * 8 ≤ 140737488355328 := by omega
    gi_wp2_with (gi_at_builtin; refine wpListIn_append_at _ rfl _ _ 22 rfl w.heap.size 3 i0 _ 1 8 Tryd.underlying22 hi hz0 hz1 hz2 rfl (by decide) _ pre.length ((pre.map wrap64).map (Value.int .i64)) rfl (HR.out.alloc _) _ 1 1 [.int .i64 (wrap64 x)] rfl rfl (cells_new _ _ _) (by simp [Value.oneCell']) hc3 hc4 (by simp; omega) ?_; intro v' w1 hown' hgrow _; obtain ⟨g', cap', rfl⟩ := ownsRow_succ hown'; obtain ⟨hv1, hv2, hr2, hk2, hb2⟩ := HBX.out.appended (by decide) HR.out hws (Nat.le_refl _) hown' hgrow; have hc1 := hv1.cell; have hf1 := hv1.frozen; have HN1 := Lib.hid ((HN.out.alloc _).kept hgrow (HN.out.not_row (by decide) HR.out)))
    have HN2 := HN1.out.other (B' := w.heap.size) (by omega) (.slice (some ⟨g', 0, none⟩) (pre.length + 1) cap')
    refine ⟨hk2, ⟨hb2, HN2.trans HN.out.symm⟩, ⟨_, hv2, ?_, trivial⟩, HN2, HB.out.trans hb2⟩
    rw [List.map_append, List.map_append, List.length_append, List.length_map]
    exact hr2
  case stop =>
    rintro D c pre W _ _ h _
    exact h.elim
  case done =>
    rintro D ys W hD rfl ⟨⟨u, hb, hrow, _⟩, hN, hB⟩ hK
    have hc1 := hb.cell
    have hf1 := hb.frozen
    have hN1 := hN.cell
    have HB := Lib.hid hB
    rw [List.length_map] at hrow
    have HR := Lib.hid hrow
    have HBX := Lib.hid hb
    have HK := Lib.hid hK
    have hws : w.heap.size ≤ W.heap.size := hB.size
    have hwl := wordsL_len (bs.length + 1) bs
    have hWL : (wordsOf bs).length ≤ bs.length + 1 := hwl
    clear hB hN hrow hb hK hwl
    obtain ⟨L, hL⟩ : ∃ L, (wordsOf bs).length = L := ⟨_, rfl⟩
    rw [hL] at HR hWL
    have HL := Lib.hid hL
    clear hL
    obtain ⟨M, hM⟩ : ∃ M, bs.length = M := ⟨_, rfl⟩
    rw [hM] at hWL hN1 hbs ⊢
    have HM := Lib.hid hM
    clear hM
    have hc3 : L + 1 ≤ maxLen := by unfold maxLen; omega
    have hc4 : (L + 1) * 8 ≤ 140737488355328 := by omega
    have HSUM : Hid (∀ (v' : Value) (W' : World), W'.ownsRow w.heap.size 3 1 v' (L + 1) (((wordsOf bs).map wrap64).map (Value.int .i64) ++ [.int .i64 (M : Int)]) → CallsIn Fence.wide (n - 1) Tryd.prog 26 #[.string s, v'] W' fun e W'' => e = .returned (.int .u64 (bytesF s.data.toList bs)) ∧ Below W'.heap.size W' W'') :=
      Lib.hid (fun v' W' h => by
        have e : (wordsOf bs).map wrap64 ++ [(bs.length : Int)] = bytesL bs := rfl
        have el : (bytesL bs).length = L + 1 := by rw [← e, List.length_append, List.length_map, HL.out]; rfl
        refine sum_in (n - 1) (by omega) s hs (bytesL bs) v' W' (intSl_of_own (B := w.heap.size) ?_ ?_ (by rw [el]; exact hc3)) (by rw [el]; omega)
        · rw [el, ← e, List.map_append, HM.out]; exact h
        · intro x hx
          rw [← e, List.mem_append] at hx
          rcases hx with hx | hx
          · obtain ⟨y, _, rfl⟩ := List.mem_map.1 hx
            exact wrap_ok y
          · have : x = (bs.length : Int) := by simpa using hx
            rw [this, HM.out]; unfold I64; omega)
    gi_wp2_with (first
      | (gi_at_builtin; refine wpListIn_append_at _ rfl _ _ 22 rfl w.heap.size 3 i0 _ 1 8 Tryd.underlying22 hi hz0 hz1 hz2 rfl (by decide) u L (((wordsOf bs).map wrap64).map (Value.int .i64)) rfl (HR.out.alloc _) _ 1 1 [.int .i64 (M : Int)] rfl rfl (cells_new _ _ _) (by simp [Value.oneCell']) hc3 hc4 (by simp; omega) ?_; intro v' w1 hown' hgrow _)
      | (refine ⟨trivial, ?_⟩; gi_at_call 26; refine (HSUM.out _ _ hown').mono ?_; rintro e w2 ⟨rfl, hb2⟩))
    have hw1 : W.heap.size + 1 ≤ w1.heap.size := by have := hgrow.size; simpa using this
    have k1 : Below w.heap.size w w1 := ((HB.out.alloc hws _).grown hgrow (by simp; omega) (fun j hj => (HR.out.lt j hj).1))
    have k2 : Below w.heap.size w w2 := k1.trans (hb2.mono k1.size)
    have kD : w2.heap[D]? = some (.deferred (some [])) := by
      have hDl := (Array.getElem?_eq_some_iff.1 HK.out).1
      have h1 : (W.alloc (.cells #[.int .i64 (M : Int)] 3)).heap[D]? = some (.deferred (some [])) := (Below.heap_alloc _ _ _ hDl).trans HK.out
      have h2 : w1.heap[D]? = some (.deferred (some [])) := (KeepsOthers.of_grownBy hgrow (fun j o ej hj => by
        rcases (HR.out.alloc (.cells #[.int .i64 (M : Int)] 3)).2 with ⟨rfl, _⟩ | ⟨g, cap, cur, rfl, _, hgb, _⟩
        · simp [Value.ownBlock] at ej
        · obtain rfl : g = j := by simpa [Value.ownBlock] using ej
          rw [hgb] at hj; cases hj; rfl)).same D _ h1 rfl
      exact (hb2.block D (by omega)).trans h2
    refine ⟨by simp, .inl ⟨_, _, rfl, run_takeDeferred kD, ?_⟩⟩
    refine ⟨.int .u64 (bytesF s.data.toList bs), ?_, rfl, ?_⟩
    · simp [results, Tryd.f21, go_sem]
    · exact k2.trans (belowK_b (w := w) (Nat.le_refl _) w2 D _ _ (by omega) kD rfl rfl)

theorem bytes_any (s : ByteArray) (hs : s.size ≤ 8192) (bs : List UInt8) (hbs : bs.length ≤ 8192) (v : Value) (w : World) (hv : ByteSl w.heap.size w v bs) :
    Calls Tryd.prog 21 #[.string s, v] w fun e W' => e = .returned (.int .u64 (bytesF s.data.toList bs)) ∧ Below w.heap.size w W' :=
  callsIn_wide.1 (bytes_in 7 (Nat.le_refl _) s hs bs hbs v w hv)

end Go.Proofs.YtgmlghmlmfbfjaaDoor
