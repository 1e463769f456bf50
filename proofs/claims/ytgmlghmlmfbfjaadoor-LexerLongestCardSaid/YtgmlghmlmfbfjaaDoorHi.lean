/- hash: mix, the words of a text. -/
import Derived.Test.YtgmlghmlmfbfjaaDoorJb
import Derived.IntWalk
namespace Go.Proofs.YtgmlghmlmfbfjaaDoor
open Go Go.RowKit Go.Shelf
attribute [local go_sem] Oper.semAt_some

/-- mix, as the program reckons it. -/
noncomputable def mixM (a b : Int) : Int := IntKind.u64.wrap (bits BinOp.xor IntKind.u64 a b * 11400714819323198485)
noncomputable def mixF (a b : Int) : Int := bits BinOp.xor IntKind.u64 (mixM a b) (mixM a b / 4294967296)
theorem mix_any (a b : Int) (w : World) :
    Calls Tryd.prog 41 #[.int .u64 a, .int .u64 b] w fun e w' => e = .returned (.int .u64 (mixF a b)) ∧ w = w' := by
  have h : mixF a b = bits BinOp.xor IntKind.u64 (IntKind.u64.wrap (bits BinOp.xor IntKind.u64 a b * 11400714819323198485)) (IntKind.u64.wrap (bits BinOp.xor IntKind.u64 a b * 11400714819323198485) / 4294967296) := rfl
  have H := Lib.hid h
  clear h
  go_enter Tryd.func41, Tryd.ntmps41
  go_wp2
  go_ret
  exact ⟨by rw [H.out]; rfl, rfl⟩

/-- A slice of bytes that can be read, below a mark. -/
def ByteSl (m : Nat) (w : World) (v : Value) (l : List UInt8) : Prop :=
  ∃ A c, v = .slice A l.length c ∧ (0 < l.length → ∃ g, A = some ⟨g, 0, none⟩ ∧ g < m ∧ ∀ k (h : k < l.length), w.cell? ⟨g, k, none⟩ = some (.int .u8 (l[k].toNat : Int)))

/-- What a round keeps. -/
def KeepB (m Bn : Nat) (W W' : World) : Prop := Below m W W' ∧ W'.heap[Bn]? = W.heap[Bn]?

noncomputable def orW (x : Int) (c t : Nat) : Int := bits BinOp.or IntKind.u64 x (IntKind.u64.wrap ((c : Int) * 2 ^ (8 * t)))
noncomputable def orF (bs : List UInt8) : Nat → Int
  | 0 => 0
  | t + 1 => orW (orF bs t) (bs.getD t 0).toNat t
/-- The first word of some bytes. -/
noncomputable def wordF (bs : List UInt8) : Int := orF bs (min 8 bs.length)
noncomputable def wordsL : Nat → List UInt8 → List Int
  | 0, _ => []
  | _ + 1, [] => []
  | f + 1, c :: r => wordF (c :: r) :: wordsL f ((c :: r).drop 8)
noncomputable def wordsOf (bs : List UInt8) : List Int := wordsL (bs.length + 1) bs
theorem wordsL_nil : ∀ f, wordsL f [] = []
  | 0 => rfl
  | _ + 1 => rfl
theorem wordsL_step {bs : List UInt8} {f i : Nat} (hi : i < bs.length) (hf : bs.length < i + f) (pre WS : List Int) (h : pre ++ wordsL f (bs.drop i) = WS) : (pre ++ [wordF (bs.drop i)]) ++ wordsL (f - 1) (bs.drop (i + 8)) = WS := by
  obtain ⟨f, rfl⟩ : ∃ f', f = f' + 1 := ⟨f - 1, by omega⟩
  cases hd : bs.drop i with
  | nil => have := congrArg List.length hd; rw [List.length_drop] at this; simp at this; omega
  | cons c r =>
    rw [← h, hd, wordsL, ← List.drop_drop, hd]; simp
theorem drop_getD (bs : List UInt8) (i t : Nat) (h : i + t < bs.length) : (bs.drop i).getD t 0 = bs[i + t] := by
  rw [List.getD_eq_getElem?_getD, List.getElem?_drop, List.getElem?_eq_getElem h]; rfl

set_option maxRecDepth 100000 in
set_option maxHeartbeats 4000000 in
theorem wordsB_in (n : Nat) (h1 : 1 ≤ n) (l Bn m : Nat) (bs : List UInt8) (hs : bs.length ≤ 8192) (v : Value)
    (J Jx : List Int → World → Prop) (W : World)
    (hY : ∀ pre x W1, J pre W1 → pre.length < bs.length → YieldAt Fence.wide (n - 1) Tryd.prog l #[.int .u64 x] W1 fun e W' =>
      (e = .returned (.bool true) ∧ J (pre ++ [x]) W' ∧ KeepB m Bn W1 W') ∨ (e = .returned (.bool false) ∧ Jx (pre ++ [x]) W'))
    (hBn : Boxed W Bn 29 v) (hv : ByteSl m W v bs) (h0 : J [] W) :
    CallsIn Fence.wide n Tryd.prog 39 #[.func (.yield l) #[] #[], .pointer (some ⟨Bn, 0, none⟩)] W fun e W' => (∃ v, e = .returned v) ∧
      ((∃ ys : List Int, ys = wordsOf bs ∧ J ys W') ∨ (∃ pre, True ∧ Jx pre W')) := by
  obtain ⟨A, c, rfl, hcell⟩ := hv
  obtain ⟨L, hL⟩ : ∃ L, bs.length = L := ⟨_, rfl⟩
  rw [hL] at hs hY hBn
  refine callsIn_of_wp Tryd.func39 rfl trivial ?_ rfl
  simp only [Tryd.ntmps39, List.size_toArray, List.length_cons, List.length_nil, Nat.reduceAdd, Nat.reduceSub, Array.replicate_succ, Array.replicate_zero, List.push_toArray, List.append_toArray, List.nil_append, List.cons_append]
  gi_wp2
  have HY := Lib.hid hY
  have HC := Lib.hid hcell
  have HL := Lib.hid hL
  clear hY hcell hL
  gi_loopw [3] (fun t wr => ∃ (i f : Nat) (pre : List Int), i ≤ L + 8 ∧ t = .int .i64 i ∧ pre.length ≤ i ∧ J pre wr ∧ Boxed wr Bn 29 (.slice A L c) ∧ Below m W wr ∧ L < i + f ∧ Hid (pre ++ wordsL f (bs.drop i) = wordsOf bs))
    (fun t _ => L + 8 - (intOf t).toNat)
  case atStart => exact ⟨0, L + 1, [], by omega, rfl, Nat.le_refl _, h0, hBn, Below.refl _ _, by omega, Lib.hid (by rw [List.drop_zero, List.nil_append, ← HL.out]; rfl)⟩
  case round =>
    obtain ⟨i, f, pre, hi, rfl, hlen, hJs, hbel, hbm, hif, HP⟩ := hrel
    have hcs : wr.cell? ⟨Bn, 0, none⟩ = some (.slice A L c) := hbel.cell
    by_cases hlt : i < L
    · obtain ⟨g, rfl, hg, hcc⟩ := HC.out (by rw [HL.out]; omega)
      have HCC := Lib.hid hcc
      clear hcc
      gi_wp2
      gi_loopw [4, 5] (fun wv kv wr' => ∃ (t : Nat) (x : Int), t ≤ 8 ∧ i + t ≤ L ∧ kv = .int .i64 ((i + t : Nat) : Int) ∧ wv = .int .u64 x ∧ Hid (x = orF (bs.drop i) t) ∧ wr' = wr)
        (fun _ kv _ => L - (intOf kv).toNat)
      case atStart => exact ⟨0, 0, by omega, by omega, by go_num, rfl, Lib.hid rfl, rfl⟩
      case round =>
        obtain ⟨t, x, ht, hit, rfl, rfl, HX, rfl⟩ := hrel
        by_cases hlt2 : (i : Int) + (t : Int) < min ((i : Int) + 8) (L : Int)
        · have hlt3 : i + t < bs.length := by rw [HL.out]; omega
          have hck := (hbm.cell (p := ⟨g, i + t, none⟩) hg).trans (HCC.out (i + t) hlt3)
          have HD := Lib.hid (drop_getD bs i t hlt3)
          have hc256 := (bs[i + t]'hlt3).toNat_lt
          obtain ⟨cc, hcc⟩ : ∃ cc, (bs[i + t]'hlt3).toNat = cc := ⟨_, rfl⟩
          rw [hcc] at hck hc256
          have HCE := Lib.hid hcc
          clear hcc
          have f0 : (0 : Int) ≤ ((i + t : Nat) : Int) := by omega
          have f1 : ((i + t : Nat) : Int) < (L : Int) := by omega
          gi_wp2
          refine ⟨⟨t + 1, _, by omega, by omega, by go_num, rfl, Lib.hid ?_, trivial⟩, by simp [intOf]; omega⟩
          rw [orF, HD.out, HCE.out, ← HX.out]; rfl
        · have htt : t = min 8 (bs.drop i).length := by rw [List.length_drop, HL.out]; omega
          have HW : Hid (x = wordF (bs.drop i)) := Lib.hid (by rw [HX.out, htt]; rfl)
          have HP2 := Lib.hid (wordsL_step (by rw [HL.out]; exact hlt) (by rw [HL.out]; exact hif) pre _ HP.out)
          rw [← HW.out] at HP2
          clear htt HX HP
          obtain ⟨fn, tmps, assign, body, hy, hR⟩ := HY.out pre x wr hJs (by omega)
          gi_wp2
          refine hR.mono ?_
          rintro e W3 (⟨rfl, hJ3, hk3⟩ | ⟨rfl, hJx3⟩)
          · gi_wp2
            go_roundw
            case rel => exact ⟨i + 8, f - 1, pre ++ [x], by omega, by go_num, by simp; omega, hJ3, hk3.2.trans hbel, hbm.trans hk3.1, by omega, HP2⟩
            case measure => simp [intOf]; omega
          · gi_wp2
            refine bodyPost_ret (results_none rfl _ _ _) rfl ?_
            exact ⟨⟨_, rfl⟩, .inr ⟨pre ++ [x], trivial, hJx3⟩⟩
    · have hpre : pre = wordsOf bs := by
        have h1 := HP.out
        rw [List.drop_eq_nil_of_le (by rw [HL.out]; omega), wordsL_nil, List.append_nil] at h1
        exact h1
      have HPR := Lib.hid hpre
      clear hpre
      gi_wp2
      go_end0
      exact ⟨⟨_, rfl⟩, .inl ⟨pre, HPR.out, hJs⟩⟩

set_option maxRecDepth 100000 in
set_option maxHeartbeats 4000000 in
theorem wordsS_in (n : Nat) (h1 : 1 ≤ n) (l Bn m : Nat) (s : ByteArray) (hs : s.size ≤ 8192)
    (J Jx : List Int → World → Prop) (W : World)
    (hY : ∀ pre x W1, J pre W1 → pre.length < s.size → YieldAt Fence.wide (n - 1) Tryd.prog l #[.int .u64 x] W1 fun e W' =>
      (e = .returned (.bool true) ∧ J (pre ++ [x]) W' ∧ KeepB m Bn W1 W') ∨ (e = .returned (.bool false) ∧ Jx (pre ++ [x]) W'))
    (hBn : Boxed W Bn 9 (.string s)) (h0 : J [] W) :
    CallsIn Fence.wide n Tryd.prog 51 #[.func (.yield l) #[] #[], .pointer (some ⟨Bn, 0, none⟩)] W fun e W' => (∃ v, e = .returned v) ∧
      ((∃ ys : List Int, ys = wordsOf s.data.toList ∧ J ys W') ∨ (∃ pre, True ∧ Jx pre W')) := by
  obtain ⟨L, hL⟩ : ∃ L, s.size = L := ⟨_, rfl⟩
  have hL2 : s.data.toList.length = L := by rw [← hL]; simp
  rw [hL] at hs hY
  refine callsIn_of_wp Tryd.func51 rfl trivial ?_ rfl
  simp only [Tryd.ntmps51, List.size_toArray, List.length_cons, List.length_nil, Nat.reduceAdd, Nat.reduceSub, Array.replicate_succ, Array.replicate_zero, List.push_toArray, List.append_toArray, List.nil_append, List.cons_append]
  gi_wp2
  have HY := Lib.hid hY
  have HL := Lib.hid hL2
  have HLS := Lib.hid hL
  clear hY hL2
  gi_loopw [3] (fun t wr => ∃ (i f : Nat) (pre : List Int), i ≤ L + 8 ∧ t = .int .i64 i ∧ pre.length ≤ i ∧ J pre wr ∧ Boxed wr Bn 9 (.string s) ∧ Below m W wr ∧ L < i + f ∧ Hid (pre ++ wordsL f (s.data.toList.drop i) = wordsOf s.data.toList))
    (fun t _ => L + 8 - (intOf t).toNat)
  case atStart => exact ⟨0, L + 1, [], by omega, rfl, Nat.le_refl _, h0, hBn, Below.refl _ _, by omega, Lib.hid (by rw [List.drop_zero, List.nil_append, ← HL.out]; rfl)⟩
  case round =>
    obtain ⟨i, f, pre, hi, rfl, hlen, hJs, hbel, hbm, hif, HP⟩ := hrel
    have hcs : wr.cell? ⟨Bn, 0, none⟩ = some (.string s) := hbel.cell
    by_cases hlt : i < L
    · gi_wp2
      gi_loopw [4, 5] (fun wv kv wr' => ∃ (t : Nat) (x : Int), t ≤ 8 ∧ i + t ≤ L ∧ kv = .int .i64 ((i + t : Nat) : Int) ∧ wv = .int .u64 x ∧ Hid (x = orF (s.data.toList.drop i) t) ∧ wr' = wr)
        (fun _ kv _ => L - (intOf kv).toNat)
      case atStart => exact ⟨0, 0, by omega, by omega, by go_num, rfl, Lib.hid rfl, rfl⟩
      case round =>
        obtain ⟨t, x, ht, hit, rfl, rfl, HX, rfl⟩ := hrel
        by_cases hlt2 : (i : Int) + (t : Int) < min ((i : Int) + 8) (L : Int)
        · have hlt3 : i + t < s.size := by omega
          have HD : Hid ((s.data.toList.drop i).getD t 0 = s[i + t]) := Lib.hid (drop_getD s.data.toList i t (by rw [HL.out]; omega))
          have hc256 := (s[i + t]'hlt3).toNat_lt
          obtain ⟨cc, hcc⟩ : ∃ cc, (s[i + t]'hlt3).toNat = cc := ⟨_, rfl⟩
          rw [hcc] at hc256
          have HCE := Lib.hid hcc
          clear hcc
          have f0 : (0 : Int) ≤ ((i + t : Nat) : Int) := by omega
          have f1 : ((i + t : Nat) : Int) < (L : Int) := by omega
          gi_wp2
          refine ⟨⟨t + 1, _, by omega, by omega, by go_num, rfl, Lib.hid ?_, trivial⟩, by simp [intOf]; omega⟩
          rw [orF, HD.out, HCE.out, ← HX.out]; unfold orW; rw [IntWalk.u64_in (cc : Int) ⟨by omega, by omega⟩]
        · have htt : t = min 8 (s.data.toList.drop i).length := by rw [List.length_drop, HL.out]; omega
          have HW : Hid (x = wordF (s.data.toList.drop i)) := Lib.hid (by rw [HX.out, htt]; rfl)
          have HP2 := Lib.hid (wordsL_step (by rw [HL.out]; exact hlt) (by rw [HL.out]; exact hif) pre _ HP.out)
          rw [← HW.out] at HP2
          clear htt HX HP
          obtain ⟨fn, tmps, assign, body, hy, hR⟩ := HY.out pre x wr hJs (by omega)
          gi_wp2
          refine hR.mono ?_
          rintro e W3 (⟨rfl, hJ3, hk3⟩ | ⟨rfl, hJx3⟩)
          · gi_wp2
            go_roundw
            case rel => exact ⟨i + 8, f - 1, pre ++ [x], by omega, by go_num, by simp; omega, hJ3, hk3.2.trans hbel, hbm.trans hk3.1, by omega, HP2⟩
            case measure => simp [intOf]; omega
          · gi_wp2
            refine bodyPost_ret (results_none rfl _ _ _) rfl ?_
            exact ⟨⟨_, rfl⟩, .inr ⟨pre ++ [x], trivial, hJx3⟩⟩
    · have hpre : pre = wordsOf s.data.toList := by
        have h1 := HP.out
        rw [List.drop_eq_nil_of_le (by rw [HL.out]; omega), wordsL_nil, List.append_nil] at h1
        exact h1
      have HPR := Lib.hid hpre
      clear hpre
      gi_wp2
      go_end0
      exact ⟨⟨_, rfl⟩, .inl ⟨pre, HPR.out, hJs⟩⟩

set_option maxHeartbeats 1000000 in
theorem wordsB25 (n : Nat) (v : Value) (A : Option Addr) (k c : Nat) (hv : v = .slice A k c) (w : World) :
    CallsIn Fence.wide n Tryd.prog 25 #[v] w fun e w' => e = .returned (.func (.func 39) #[] #[.pointer (some ⟨w.heap.size, 0, none⟩)]) ∧ w.alloc (.cells #[v] 29) = w' := by
  subst hv
  refine callsIn_of_wp Tryd.func25 rfl trivial ?_ rfl
  simp only [Tryd.ntmps25, List.size_toArray, List.length_cons, List.length_nil, Nat.reduceAdd, Nat.reduceSub, Array.replicate_succ, Array.replicate_zero, List.push_toArray, List.append_toArray, List.nil_append, List.cons_append]
  gi_wp2
  go_ret
  exact ⟨rfl, rfl⟩
set_option maxHeartbeats 1000000 in
theorem wordsS40 (n : Nat) (s : ByteArray) (w : World) :
    CallsIn Fence.wide n Tryd.prog 40 #[.string s] w fun e w' => e = .returned (.func (.func 51) #[] #[.pointer (some ⟨w.heap.size, 0, none⟩)]) ∧ w.alloc (.cells #[.string s] 9) = w' := by
  refine callsIn_of_wp Tryd.func40 rfl trivial ?_ rfl
  simp only [Tryd.ntmps40, List.size_toArray, List.length_cons, List.length_nil, Nat.reduceAdd, Nat.reduceSub, Array.replicate_succ, Array.replicate_zero, List.push_toArray, List.append_toArray, List.nil_append, List.cons_append]
  gi_wp2
  go_ret
  exact ⟨rfl, rfl⟩

end Go.Proofs.YtgmlghmlmfbfjaaDoor
