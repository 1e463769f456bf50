/- LexerErrors, walked. -/
import Derived.Test.YtgmlghmlmfbfjaaDoorKb
import Derived.Deep.DeepFit
import Derived.IntWalk
namespace Go.Proofs.YtgmlghmlmfbfjaaDoor
open Go Go.RowKit

theorem extract0 (s : ByteArray) (b : Nat) : (s.extract 0 b).data.toList = s.data.toList.take b := by rw [Lib.extract_data, List.drop_zero, Nat.sub_zero]
theorem size_take (s : ByteArray) (b : Nat) : (s.extract 0 b).size ≤ s.size := by
  have := ByteArray.size_extract (a := s) (b := 0) (e := b)
  omega

theorem line_end (s : ByteArray) (T : List Lx.Tok) (p e k : Nat) (hx : Lx.Lexes 0 s.data.toList T p e) (hline : ∀ y b' z, s.data.toList = y ++ b' :: z → Lx.cls b' = 0 → p ≤ y.length → Lx.Lexes 0 y T p e) (hpk : p ≤ k) (h : k = s.size ∨ ∃ h : k < s.size, s[k].toNat = 10) :
    Lx.Lexes 0 (s.extract 0 k).data.toList T p e := by
  rw [extract0]
  rcases h with rfl | ⟨h, h10⟩
  · rw [List.take_of_length_le (by simp)]; exact hx
  · refine hline _ s[k] (s.data.toList.drop (k + 1)) ?_ (by unfold Lx.cls Lx.clsN; rw [h10]; rfl) ?_
    · rw [← drop_cons s k h, List.take_append_drop]
    · rw [List.length_take]; simp; omega

set_option maxRecDepth 100000 in
set_option maxHeartbeats 4000000 in
theorem lexerErrors_any (l : List Int) (v : Value) (w : World) (hl : IntSl w v l) (hR : RangeOk w) :
    Calls Tryd.prog 8 #[v] w fun e w' => e = .returned (.bool true) ∧ Below w.heap.size w w' := by
  have HL := Lib.hid hl
  have HR := Lib.hid hR
  clear hl hR
  go_enter Tryd.func8, Tryd.ntmps8
  go_wp2_with fail
  refine (text_any l v w HL.out).mono ?_
  rintro e w1 ⟨s, rfl, hs, hb1⟩
  have B1 := Lib.hid hb1
  clear hb1
  obtain ⟨T, p, e, hx⟩ := lexes_of s.data.toList
  have HX := Lib.hid hx
  have herr := hx.err
  by_cases he : e = 0
  · subst he
    have hp := hx.zero rfl
    subst hp
    have HT := Lib.hid (tokens_ok s hx (by omega) w1 (HR.out.below B1.out))
    clear hx herr
    go_wp2_with fail
    refine HT.out.mono ?_
    rintro e w2 ⟨v2, rfl, -, hb2⟩
    have B2 := Lib.hid (B1.out.trans (hb2.mono B1.out.size))
    clear hb2
    go_wp2_with fail
    refine (lives_any w2 (HR.out.below B2.out)).mono ?_
    rintro e w3 ⟨rfl, hb3⟩
    have B3 := Lib.hid (B2.out.trans (hb3.mono B2.out.size))
    clear hb3
    go_wp2_with fail
    go_ret
    exact ⟨rfl, B3.out⟩
  · obtain ⟨q, b, hpq, hq, hcb, hcut, hline⟩ := hx.cut he
    rw [Nat.zero_add] at hpq
    subst hpq
    have hlt : p < s.size := by
      have := (List.getElem?_eq_some_iff.1 hq).1
      simpa using this
    have HT := Lib.hid (tokens_lex s hx (by omega) w1 (HR.out.below B1.out))
    have HLINE : Hid (∀ k, p ≤ k → (k = s.size ∨ ∃ h : k < s.size, s[k].toNat = 10) → ∀ W, RangeOk W → Calls Tryd.prog 16 #[.string (s.extract 0 k)] W (ResPost 38 ([], p, e) W)) := Lib.hid (fun k h1 h2 W hW => by
      have h3 := tokens_lex (s.extract 0 k) (line_end s T p e k hx hline h1 h2) (by have := size_take s k; omega) W hW
      unfold outOf at h3; rw [if_neg he] at h3; exact h3)
    have HQ := Lib.hid hq
    have hz1 := size_take s p
    have HU : Hid (∀ W, RangeOk W → Calls Tryd.prog 16 #[.string (s.extract 0 p)] W (ResPost 38 (T, 0, 0) W)) := Lib.hid (fun W h => tokens_ok (s.extract 0 p) (by rw [extract0]; exact hcut) (by omega) W h)
    clear hx hcut hline hq hz1
    have he1 : ((e : Int) == 0) = false := by simp only [beq_eq_false_iff_ne]; omega
    have he2 : (e : Int) ≠ 0 := by omega
    go_wp2_with fail
    refine HT.out.mono ?_
    rintro e' w2 ⟨v2, rfl, -, hb2⟩
    have B2 := Lib.hid (B1.out.trans (hb2.mono B1.out.size))
    clear hb2
    have hp0 : (0 : Int) ≤ (p : Int) := by omega
    have hps : (p : Int) < (s.size : Int) := by omega
    go_wp2_with fail
    go_loop [7] (fun t => ∃ k : Nat, p ≤ k ∧ k ≤ s.size ∧ t = .int .i64 k ∧ Hid (∀ j, p ≤ j → (h : j < s.size) → j < k → s[j].toNat ≠ 10)) (fun t => s.size - (intOf t).toNat)
    case atStart => exact ⟨p, Nat.le_refl _, by omega, rfl, Lib.hid (fun j h1 _ h2 => by omega)⟩
    case round =>
      obtain ⟨k, hpk, hks, rfl, HK⟩ := hrel
      by_cases hlt : k < s.size
      · by_cases h10 : s[k].toNat = 10
        · have hb10 : (((s[k].toNat : Int)) != 10) = false := by rw [bne_eq_false_iff_eq]; omega
          have HE := Lib.hid (HLINE.out k hpk (.inr ⟨hlt, h10⟩))
          clear HLINE HK
          go_wp2_with fail
          refine (HU.out w2 (HR.out.below B2.out)).mono ?_
          rintro e3 w3 ⟨v3, rfl, -, hb3⟩
          have B3 := Lib.hid (B2.out.trans (hb3.mono B2.out.size))
          clear hb3
          simp only
          go_wp2_with fail
          refine (HE.out w3 (HR.out.below B3.out)).mono ?_
          rintro e4 w4 ⟨v4, rfl, -, hb4⟩
          have B4 := Lib.hid (B3.out.trans (hb4.mono B3.out.size))
          clear hb4
          simp only
          go_wp2_with fail
          refine (lives_any w4 (HR.out.below B4.out)).mono ?_
          rintro e5 w5 ⟨rfl, hb5⟩
          have B5 := Lib.hid (B4.out.trans (hb5.mono B4.out.size))
          clear hb5
          go_wp2_with fail
          go_ret
          exact ⟨rfl, B5.out⟩
        · have hb10 : (((s[k].toNat : Int)) != 10) = true := by rw [bne_iff_ne]; omega
          go_wp2_with fail
          go_round
          case rel => exact ⟨k + 1, by omega, by omega, by go_num, Lib.hid (fun j h1 h2 h3 => by
            by_cases hj : j = k
            · subst hj; exact h10
            · exact HK.out j h1 h2 (by omega))⟩
          case measure => simp [intOf]; omega
      · have hks2 : k = s.size := by omega
        have hkl : ¬ ((k : Int) < (s.size : Int)) := by omega
        have HE := Lib.hid (HLINE.out k hpk (.inl hks2))
        clear HLINE HK hks2
        go_wp2_with fail
        refine (HU.out w2 (HR.out.below B2.out)).mono ?_
        rintro e3 w3 ⟨v3, rfl, -, hb3⟩
        have B3 := Lib.hid (B2.out.trans (hb3.mono B2.out.size))
        clear hb3
        simp only
        go_wp2_with fail
        refine (HE.out w3 (HR.out.below B3.out)).mono ?_
        rintro e4 w4 ⟨v4, rfl, -, hb4⟩
        have B4 := Lib.hid (B3.out.trans (hb4.mono B3.out.size))
        clear hb4
        simp only
        go_wp2_with fail
        refine (lives_any w4 (HR.out.below B4.out)).mono ?_
        rintro e5 w5 ⟨rfl, hb5⟩
        have B5 := Lib.hid (B4.out.trans (hb5.mono B4.out.size))
        clear hb5
        go_wp2_with fail
        go_ret
        exact ⟨rfl, B5.out⟩

end Go.Proofs.YtgmlghmlmfbfjaaDoor
