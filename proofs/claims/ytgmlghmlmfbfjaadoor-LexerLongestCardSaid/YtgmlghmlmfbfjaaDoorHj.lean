/- hash: Sum, Bytes. -/
import Derived.Test.YtgmlghmlmfbfjaaDoorHi
import Derived.Test.YtgmlghmlmfbfjaaDoorGc
namespace Go.Proofs.YtgmlghmlmfbfjaaDoor
open Go Go.RowKit Go.Shelf
attribute [local go_sem] Oper.semAt_some

noncomputable def mixs : Int → List Int → Int
  | a, [] => a
  | a, x :: r => mixs (mixF a x) r
theorem mixs_snoc : ∀ (l : List Int) (a x : Int), mixs a (l ++ [x]) = mixF (mixs a l) x
  | [], _, _ => rfl
  | y :: r, a, x => mixs_snoc r (mixF a y) x

theorem wordsS_stops (n : Nat) (h1 : 1 ≤ n) (Bn m : Nat) (s : ByteArray) (hs : s.size ≤ 8192) (w : World) (hBn : Boxed w Bn 9 (.string s)) :
    SeqStopsK Fence.wide n Tryd.prog 51 #[.pointer (some ⟨Bn, 0, none⟩)] (fun x : Int => #[Value.int .u64 x]) (KeepB m Bn) (fun ys => ys = wordsOf s.data.toList) (fun _ => True) s.size w :=
  fun l J Jx W hW _ _ hY h0 => wordsS_in n h1 l Bn m s hs J Jx W hY ((hW.block Bn hBn.lt).trans hBn) h0

/-- Sum. -/
noncomputable def sum1 (lab : List UInt8) (n : Nat) : Int := mixF (mixF (mixs 0 (wordsOf lab)) (lab.length : Int)) (n : Int)
noncomputable def sumF (lab : List UInt8) (l : List Int) : Int := mixF (mixs (sum1 lab l.length) (l.map IntKind.u64.wrap)) 0
theorem mixs_take (a : Int) (l : List Int) (k : Nat) (h : k < l.length) : mixs a ((l.take (k + 1)).map IntKind.u64.wrap) = mixF (mixs a ((l.take k).map IntKind.u64.wrap)) (IntKind.u64.wrap (l.getD k 0)) := by
  have e : l.getD k 0 = l[k] := by rw [List.getD_eq_getElem?_getD, List.getElem?_eq_getElem h]; rfl
  rw [List.take_succ_eq_append_getElem h, List.map_append, e, List.map_cons, List.map_nil, mixs_snoc]

set_option maxRecDepth 100000 in
set_option maxHeartbeats 4000000 in
theorem sum_in (n : Nat) (hn : 5 ≤ n) (s : ByteArray) (hs : s.size ≤ 8192) (l : List Int) (v : Value) (w : World) (hl : IntSl w v l) (hll : l.length ≤ 100000) :
    CallsIn Fence.wide n Tryd.prog 26 #[.string s, v] w fun e W' => e = .returned (.int .u64 (sumF s.data.toList l)) ∧ Below w.heap.size w W' := by
  obtain ⟨A, c, rfl, hc, hm⟩ := hl.form
  have HL := Lib.hid hl
  clear hl
  have h1 : 1 ≤ n := by omega
  refine callsIn_of_wp_marks Tryd.func26 rfl trivial ?_ rfl
  simp only [Tryd.ntmps26, List.size_toArray, List.length_cons, List.length_nil, Nat.reduceAdd, Nat.reduceSub, Array.replicate_succ, Array.replicate_zero, List.push_toArray, List.append_toArray, List.nil_append, List.cons_append]
  gi_wp2_with (refine ⟨trivial, ?_⟩; gi_at_call 40; refine (wordsS40 (n - 1) s _).mono ?_; rintro e w' ⟨rfl, rfl⟩)
  have bS := Boxed.new w 46 (.int .u64 0)
  have bN := Boxed.new (w.alloc (.cells #[.int .u64 0] 46)) 9 (.string s)
  rw [World.size_alloc] at bN
  have hB0 : Below w.heap.size w ((w.alloc (.cells #[.int .u64 0] 46)).alloc (.cells #[.string s] 9)) := ((Below.refl _ w).alloc (Nat.le_refl _) _).alloc (by simp) _
  obtain ⟨W0, hW0⟩ : ∃ W0, (w.alloc (.cells #[.int .u64 0] 46)).alloc (.cells #[.string s] 9) = W0 := ⟨_, rfl⟩
  have hsz : W0.heap.size = w.heap.size + 2 := by rw [← hW0]; simp
  have bS0 : Boxed W0 w.heap.size 46 (.int .u64 0) := by rw [← hW0]; exact bS.alloc _
  rw [hW0] at bN hB0 ⊢
  clear hW0 bS
  have HS := wordsS_stops (n - 1) (by omega) (w.heap.size + 1) w.heap.size s hs W0 bN
  refine wpIn_rangeFunc_ownF rfl h1 (gf := 51) (lb := #[.pointer (some ⟨w.heap.size + 1, 0, none⟩)]) rfl trivial (enters_of Tryd.func51 (by kernel_rfl) rfl)
    HS (fun h k => ⟨h.1.trans k.1, k.2.trans h.2⟩) (fun W l o o' hl ho hc hw => ⟨belowK_b (w := W0) (by omega) W l o o' hl ho hc hw, World.putObj_heap_other (by omega)⟩) (Below.refl _ _) (fun _ => rfl)
    (fun pre W => Boxed W w.heap.size 46 (.int .u64 (mixs 0 pre)) ∧ Below w.heap.size w W) (fun _ _ _ => False)
    (OwnFrom.and (Own.from (boxed_own w.heap.size 46 (fun pre : List Int => Value.int .u64 (mixs 0 pre))) _) (ownFrom_below (Nat.le_refl _) (by omega)))
    (fun _ _ _ _ _ hs _ _ => hs)
    ⟨bS0, hB0⟩
    (fun x => { tmps := #[.string s, .slice A l.length c, undef, undef, .int .u64 0, .pointer (some ⟨w.heap.size, 0, none⟩), .int .u64 x, undef, undef, .string s, .func (.func 51) #[] #[.pointer (some ⟨w.heap.size + 1, 0, none⟩)], .int .u64 x, undef, undef, undef, undef, undef, undef, undef, undef, undef, undef, undef, undef, undef, undef, undef, undef, undef, undef, undef, undef, undef, undef, undef, undef, undef], defers := [] })
    ?assign ?body ?done ?stop
  case assign =>
    intro l x W K hK
    gi_wp2
    exact hK
  case body =>
    rintro l pre x W ⟨hb, hB⟩ _
    have hc1 := hb.cell
    have hf1 := hb.frozen
    have HB := Lib.hid hB
    clear hB
    have hd : 1 ≤ n - 1 - 1 := by omega
    gi_wp2_with (refine ⟨trivial, ?_⟩; gi_at_call 41; refine (CallsIn.inRound l (callsIn_wide.2 (mix_any _ _ _))).mono ?_; rintro e w' ⟨rfl, rfl⟩)
    refine ⟨KeepsOthers.setCell _ _ _, ⟨(Below.refl w.heap.size W).setCell (p := ⟨w.heap.size, 0, none⟩) (Nat.le_refl _) _, ?_⟩, ?_, HB.out.setCell (p := ⟨w.heap.size, 0, none⟩) (Nat.le_refl _) _⟩
    · exact Below.heap_setCell _ _ _ _ (by simp)
    · rw [mixs_snoc]; exact hb.set _
  case stop =>
    rintro D c pre W _ _ h _
    exact h.elim
  case done =>
    rintro D ys W hD rfl ⟨hb, hB⟩ hK
    have hc1 := hb.cell
    have hf1 := hb.frozen
    have HB := Lib.hid hB
    have HBX := Lib.hid hb
    have HK := Lib.hid hK
    clear hB hK hb
    obtain ⟨L, hL⟩ : ∃ L, l.length = L := ⟨_, rfl⟩
    have hss : s.data.toList.length = s.size := by simp
    have HX1 : Hid (sum1 s.data.toList L = mixF (mixF (mixs 0 (wordsOf s.data.toList)) (s.size : Int)) (L : Int)) := Lib.hid (by unfold sum1; rw [hss])
    rw [hL] at hm hll hc ⊢
    have HLL := Lib.hid hL
    clear hL hss
    unfold maxLen at hm
    gi_wp2_with (refine ⟨trivial, ?_⟩; gi_at_call 41; refine (callsIn_wide.2 (mix_any _ _ _)).mono ?_; rintro e w' ⟨rfl, rfl⟩)
    rw [← HX1.out]
    have k1 := HBX.out.set (.int .u64 (sum1 s.data.toList L))
    have kB := HB.out.setCell (p := ⟨w.heap.size, 0, none⟩) (Nat.le_refl _) (.int .u64 (sum1 s.data.toList L))
    have kK := (KeepsOthers.setCell W ⟨w.heap.size, 0, none⟩ (.int .u64 (sum1 s.data.toList L))).same D _ HK.out rfl
    have hWs : W.heap.size = (W.setCell ⟨w.heap.size, 0, none⟩ (.int .u64 (sum1 s.data.toList L))).heap.size := by simp
    have HSF : Hid (sumF s.data.toList l = mixF (mixs (sum1 s.data.toList L) (l.map IntKind.u64.wrap)) 0) := Lib.hid (by unfold sumF; rw [HLL.out])
    generalize sum1 s.data.toList L = x0 at *
    obtain ⟨W1, hW1⟩ : ∃ W1, W.setCell ⟨w.heap.size, 0, none⟩ (.int .u64 x0) = W1 := ⟨_, rfl⟩
    rw [hW1] at k1 kB kK ⊢
    clear hW1 hc1 hf1 hWs HB HBX HK
    gi_loopw [26] (fun t wr => ∃ k : Nat, k ≤ L ∧ t = .int .i64 k ∧ Boxed wr w.heap.size 46 (.int .u64 (mixs x0 ((l.take k).map IntKind.u64.wrap))) ∧ Hid (Below w.heap.size w wr) ∧ Hid (wr.heap[D]? = some (.deferred (some []))))
      (fun t _ => L - (intOf t).toNat)
    case atStart => exact ⟨0, Nat.zero_le _, rfl, k1, Lib.hid kB, Lib.hid kK⟩
    case round =>
      obtain ⟨k, hk, rfl, hb, HB, HK⟩ := hrel
      have hc1 := hb.cell
      have hf1 := hb.frozen
      have HBX := Lib.hid hb
      clear hb k1 kB kK
      by_cases hlt : k < L
      · obtain ⟨hx, a, rfl, hg, hcell'⟩ := int_cell HL.out k (by rw [HLL.out]; exact hlt)
        have hcell := (HB.out.cell (p := a.add k) (by rw [add_block]; exact hg)).trans hcell'
        have HM := Lib.hid (mixs_take x0 l k (by rw [HLL.out]; exact hlt))
        clear hcell'
        generalize l.getD k 0 = x at *
        have f0 : (0 : Int) ≤ (k : Int) := by omega
        have f1 : (k : Int) < (L : Int) := by omega
        generalize mixs x0 ((l.take k).map IntKind.u64.wrap) = y at *
        gi_wp2_with (refine ⟨trivial, ?_⟩; gi_at_call 41; refine (callsIn_wide.2 (mix_any _ _ _)).mono ?_; rintro e w' ⟨rfl, rfl⟩)
        go_roundw
        case rel => exact ⟨k + 1, by omega, by go_num, by rw [HM.out]; exact HBX.out.set _, Lib.hid (HB.out.setCell (p := ⟨w.heap.size, 0, none⟩) (Nat.le_refl _) _), Lib.hid ((KeepsOthers.setCell wr ⟨w.heap.size, 0, none⟩ _).same D _ HK.out rfl)⟩
        case measure => simp [intOf]; omega
      · have hkl : k = L := by omega
        subst hkl
        have hlt2 : l.take k = l := List.take_of_length_le (by rw [HLL.out]; exact Nat.le_refl _)
        rw [hlt2] at hc1
        clear hlt2
        gi_wp2_with (refine ⟨trivial, ?_⟩; gi_at_call 41; refine (callsIn_wide.2 (mix_any _ _ _)).mono ?_; rintro e w' ⟨rfl, rfl⟩)
        refine ⟨by simp, .inl ⟨_, _, rfl, run_takeDeferred HK.out, ?_⟩⟩
        refine ⟨.int .u64 (sumF s.data.toList l), ?_, rfl, ?_⟩
        · rw [HSF.out]; simp [results, Tryd.f26, go_sem]
        · exact HB.out.trans (belowK_b (w := w) (Nat.le_refl _) wr D _ _ (by omega) HK.out rfl rfl)

end Go.Proofs.YtgmlghmlmfbfjaaDoor
