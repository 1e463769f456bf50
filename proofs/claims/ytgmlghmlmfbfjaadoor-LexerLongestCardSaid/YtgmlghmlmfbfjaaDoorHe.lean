/- LexerPlaces, walked. -/
import Derived.Test.YtgmlghmlmfbfjaaDoorKb
import Derived.Deep.DeepFit
import Derived.IntWalk
namespace Go.Proofs.YtgmlghmlmfbfjaaDoor
open Go Go.RowKit

theorem extract_list (s : ByteArray) (a b : Nat) : (s.extract a b).data.toList = (s.data.toList.drop a).take (b - a) := Lib.extract_data s a b
theorem extract_size (s : ByteArray) (a b : Nat) : (s.extract a b).size ≤ s.size := by
  have := ByteArray.size_extract (a := s) (b := a) (e := b)
  omega
theorem extract_end (s : ByteArray) (a : Nat) (h : a ≤ s.size) : (s.extract a s.size).data.toList = s.data.toList.drop a := by
  rw [extract_list, List.take_of_length_le (by simp)]
theorem getD_tok (T : List Lx.Tok) (i : Nat) (h : i < T.length) : T.drop i = T.getD i d0 :: T.drop (i + 1) := by
  rw [List.drop_eq_getElem_cons h, List.getD_eq_getElem?_getD, List.getElem?_eq_getElem h]; rfl
/-- One token further: what stands ahead of it has none; it stands there. -/
theorem place_step {s : ByteArray} {T : List Lx.Tok} {at_ i : Nat} (h : Lx.Lexes at_ (s.data.toList.drop at_) (T.drop i) 0 0) (hi : i < T.length) (ha : at_ ≤ s.size) :
    at_ ≤ (T.getD i d0).at_ ∧ (T.getD i d0).at_ + (T.getD i d0).text.length ≤ s.size ∧ (∀ a', Lx.Lexes a' (s.extract at_ (T.getD i d0).at_).data.toList [] 0 0) ∧
      s.extract (T.getD i d0).at_ ((T.getD i d0).at_ + (T.getD i d0).text.length) = ⟨(T.getD i d0).text.toArray⟩ ∧
      Lx.Lexes ((T.getD i d0).at_ + (T.getD i d0).text.length) (s.data.toList.drop ((T.getD i d0).at_ + (T.getD i d0).text.length)) (T.drop (i + 1)) 0 0 := by
  rw [getD_tok T i hi] at h
  obtain ⟨k, h1, h2, h3, h4, h5⟩ := h.next
  rw [h1]
  have hl : (s.data.toList.drop at_).length = s.size - at_ := by simp
  rw [hl] at h2
  rw [List.drop_drop] at h4 h5
  refine ⟨by omega, by omega, fun a' => ?_, ?_, ?_⟩
  · rw [extract_list]
    have e : at_ + k - at_ = k := by omega
    rw [e]; exact h3 a'
  · have e := extract_list s (at_ + k) (at_ + k + (T.getD i d0).text.length)
    rw [Nat.add_sub_cancel_left, ← h4] at e
    exact bytes_of e
  · rw [Nat.add_assoc]
    have e : at_ + (k + (T.getD i d0).text.length) = at_ + k + (T.getD i d0).text.length := by omega
    rw [e] at h5 ⊢
    exact h5

set_option maxRecDepth 100000 in
set_option maxHeartbeats 4000000 in
theorem lexerPlaces_any (l : List Int) (v : Value) (w : World) (hl : IntSl w v l) (hR : RangeOk w) :
    Calls Tryd.prog 6 #[v] w fun e w' => e = .returned (.bool true) ∧ Below w.heap.size w w' := by
  have HL := Lib.hid hl
  have HR := Lib.hid hR
  have hcs := cleanB_size l
  obtain ⟨⟨T, hT⟩, -⟩ := clean_lex l
  have HC : Hid (∀ W, IntSl W v l → Calls Tryd.prog 12 #[v] W fun e w' => e = .returned (.string ⟨(cleanL l).toArray⟩) ∧ Below W.heap.size W w') := Lib.hid (fun W h => clean_any l v W h)
  have hT2 : Lx.Lexes 0 (⟨(cleanL l).toArray⟩ : ByteArray).data.toList T 0 0 := hT
  clear hl hR hT
  generalize (⟨(cleanL l).toArray⟩ : ByteArray) = s at *
  have HT : Hid (∀ W, RangeOk W → Calls Tryd.prog 16 #[.string s] W (ResPost 38 (T, 0, 0) W)) := Lib.hid (fun W h => tokens_ok s hT2 (by omega) W h)
  have HX : Hid (Lx.Lexes 0 (s.data.toList.drop 0) (T.drop 0) 0 0) := Lib.hid (by rw [List.drop_zero, List.drop_zero]; exact hT2)
  have hTl : T.length ≤ s.size := by simpa using hT2.len
  clear hT2
  go_enter Tryd.func6, Tryd.ntmps6
  go_wp2_with fail
  refine (HC.out w HL.out).mono ?_
  rintro e w1 ⟨rfl, hb1⟩
  have B1 := Lib.hid hb1
  clear hb1
  go_wp2_with fail
  refine (HT.out w1 (HR.out.below B1.out)).mono ?_
  rintro e w2 ⟨v2, rfl, hown, hb2⟩
  have B2 := Lib.hid (B1.out.trans (hb2.mono B1.out.size))
  obtain ⟨A, c, rfl, hc⟩ := (TokSl.of_own hown).form
  have TS := Lib.hid (TokSl.of_own hown)
  clear hown hb2
  simp only
  obtain ⟨n, hn⟩ : ∃ n, T.length = n := ⟨_, rfl⟩
  rw [hn] at TS hc hTl ⊢
  have HN := Lib.hid hn
  clear hn
  go_wp2_with fail
  go_loopw [7, 8] (fun t u wr => ∃ at_ i : Nat, i ≤ n + 1 ∧ at_ ≤ s.size ∧ t = .int .i64 at_ ∧ u = .int .i64 i ∧ Hid (i ≤ n → Lx.Lexes at_ (s.data.toList.drop at_) (T.drop i) 0 0) ∧ Hid (Below w2.heap.size w2 wr)) (fun _ u _ => n + 1 - (intOf u).toNat)
  case atStart => exact ⟨0, 0, by omega, by omega, rfl, rfl, Lib.hid (fun _ => HX.out), Lib.hid (Below.refl _ _)⟩
  case round =>
    obtain ⟨at_, i, hi, hat, rfl, rfl, HI, HB⟩ := hrel
    by_cases hlt : i < n
    · obtain ⟨h1, h2, h3, h4, h5⟩ := place_step (HI.out (by omega)) (by rw [HN.out]; exact hlt) hat
      obtain ⟨g, rfl, hg, -, c1, -, c3⟩ := tok_cells (TS.out.below HB.out) i hlt
      have HG : Hid (∀ W, RangeOk W → Calls Tryd.prog 16 #[.string (s.extract at_ (T.getD i d0).at_)] W (ResPost 38 ([], 0, 0) W)) := Lib.hid (fun W h => tokens_ok _ (h3 0) (by have := extract_size s at_ (T.getD i d0).at_; omega) W h)
      have HL5 := Lib.hid h5
      have htx : (⟨(T.getD i d0).text.toArray⟩ : ByteArray).size = (T.getD i d0).text.length := rfl
      have H4 := Lib.hid h4
      have hce : ∀ W, Below w2.heap.size w2 W → W.cell? ⟨g, i * 4 + 1, none⟩ = some (.int .i64 ((T.getD i d0).at_ : Int)) ∧ W.cell? ⟨g, i * 4 + 3, none⟩ = some (.string ⟨(T.getD i d0).text.toArray⟩) := fun W h => by
        obtain ⟨g', eg, _, _, d1, _, d3⟩ := tok_cells (TS.out.below h) i hlt
        injection eg with eg; injection eg with eg; subst eg
        exact ⟨d1, d3⟩
      have HCE := Lib.hid hce
      clear h3 h4 h5 hce
      rw [← htx] at H4 HL5 h2
      clear htx
      generalize (T.getD i d0).at_ = nx at *
      generalize (⟨(T.getD i d0).text.toArray⟩ : ByteArray) = tx at *
      have f0 : (0 : Int) ≤ (i : Int) := by omega
      have f1 : (i : Int) < (n : Int) := by omega
      have g0 : (0 : Int) ≤ (at_ : Int) := by omega
      have g1 : (at_ : Int) ≤ (nx : Int) := by omega
      have g2 : (nx : Int) ≤ (s.size : Int) := by omega
      clear c3
      go_wp2_with fail
      refine (HG.out _ ?_).mono ?_
      · exact HR.out.below (B2.out.trans (HB.out.mono B2.out.size))
      rintro e3 w3 ⟨v3, rfl, hown3, hb3⟩
      obtain ⟨A3, c3', rfl, -⟩ := (TokSl.of_own hown3).form
      have HB3 := Lib.hid (HB.out.trans (hb3.mono HB.out.size))
      obtain ⟨c1, c3⟩ := HCE.out _ HB3.out
      clear hown3 hb3 HB hg
      simp only [List.length_nil]
      have hd : decide ((s.size : Int) < (nx : Int) + (tx.size : Int)) = false := decide_eq_false (by omega)
      have g3 : (nx : Int) ≤ (nx : Int) + (tx.size : Int) := by omega
      have g4 : (nx : Int) + (tx.size : Int) ≤ (s.size : Int) := by omega
      have g5 : (0 : Int) ≤ (nx : Int) := by omega
      go_wp2_with fail
      go_quiet (fail)
      go_wp2_with fail
      · exfalso
        have ht : (!(s.extract nx (nx + tx.size)).toList == tx.toList) = true := by assumption
        rw [H4.out] at ht
        simp at ht
      · go_roundw
        case rel => exact ⟨nx + tx.size, i + 1, by omega, by omega, by go_num, by go_num, Lib.hid (fun _ => HL5.out), Lib.hid (bdn HB3.out _)⟩
        case measure => simp [intOf]; omega
    · by_cases heq : i = n
      · subst heq
        have HG : Hid (∀ W, RangeOk W → Calls Tryd.prog 16 #[.string (s.extract at_ s.size)] W (ResPost 38 ([], 0, 0) W)) := Lib.hid (fun W h => tokens_ok _ (by
            have h1 := HI.out (Nat.le_refl _)
            have h2 : T.drop i = [] := List.drop_eq_nil_of_le (by rw [HN.out]; exact Nat.le_refl _)
            rw [h2] at h1
            rw [extract_end s at_ hat]; exact h1.last 0) (by have := extract_size s at_ s.size; omega) W h)
        have g0 : (0 : Int) ≤ (at_ : Int) := by omega
        have g1 : (at_ : Int) ≤ (s.size : Int) := by omega
        go_wp2_with fail
        refine (HG.out _ ?_).mono ?_
        · exact HR.out.below (B2.out.trans (HB.out.mono B2.out.size))
        rintro e3 w3 ⟨v3, rfl, hown3, hb3⟩
        obtain ⟨A3, c3', rfl, -⟩ := (TokSl.of_own hown3).form
        have HB3 := Lib.hid (HB.out.trans (hb3.mono HB.out.size))
        clear hown3 hb3 HB
        simp only [List.length_nil]
        go_wp2_with fail
        go_roundw
        case rel => exact ⟨at_, i + 1, by omega, by omega, rfl, by go_num, Lib.hid (fun h => absurd h (by omega)), HB3⟩
        case measure => simp [intOf]
      · go_wp2_with fail
        refine (lives_any _ (HR.out.below (B2.out.trans (HB.out.mono B2.out.size)))).mono ?_
        rintro e5 w5 ⟨rfl, hb5⟩
        have B5 := Lib.hid ((B2.out.trans (HB.out.mono B2.out.size)).trans (hb5.mono (Nat.le_trans B2.out.size HB.out.size)))
        clear hb5
        go_wp2_with fail
        go_ret
        exact ⟨rfl, B5.out⟩

end Go.Proofs.YtgmlghmlmfbfjaaDoor
