/- LexerTokens, walked. -/
import Derived.Test.YtgmlghmlmfbfjaaDoorGd
import Derived.Test.YtgmlghmlmfbfjaaDoorSc
namespace Go.Proofs.YtgmlghmlmfbfjaaDoor
open Go Go.RowKit

theorem cleanOne_len (x : Int) : (cleanOne x).length ≤ 19 := by
  have h1 := piece_size (around x 37)
  have h2 := sep_size (around (x.tdiv 37) 3)
  unfold cleanOne
  rw [List.length_append]; omega
theorem flat_len : ∀ l : List Int, (l.flatMap cleanOne).length ≤ 19 * l.length
  | [] => Nat.le_refl 0
  | x :: r => by
    have h1 := cleanOne_len x
    have h2 := flat_len r
    rw [List.flatMap_cons, List.length_append, List.length_cons]; omega
theorem cleanL_len (l : List Int) : (cleanL l).length ≤ 456 := by
  have h := flat_len (l.take 24)
  have h2 := List.length_take_le 24 l
  unfold cleanL; omega
theorem cleanB_size (l : List Int) : (⟨(cleanL l).toArray⟩ : ByteArray).size ≤ 456 := cleanL_len l

set_option maxHeartbeats 2000000 in
theorem lexerTokens_any (l : List Int) (v : Value) (s : ByteArray) (w : World) (hl : IntSl w v l) (hs : s.size ≤ maxLen) (hR : RangeOk w) :
    Calls Tryd.prog 3 #[v, .string s] w fun e w' => e = .returned (.bool true) ∧ Below w.heap.size w w' := by
  have HL := Lib.hid hl
  have HR := Lib.hid hR
  have hs2 := shortB_size s 60 hs
  have hcs := cleanB_size l
  generalize hq : (⟨(cleanL l).toArray⟩ : ByteArray) = q at *
  generalize hu : shortB s 60 = u at *
  have HC : Hid (∀ W, IntSl W v l → Calls Tryd.prog 12 #[v] W fun e w' => e = .returned (.string q) ∧ Below W.heap.size W w') := Lib.hid (fun W h => by rw [← hq]; exact clean_any l v W h)
  have HS : Hid (∀ W, Calls Tryd.prog 13 #[.string s, .int .i64 60] W fun e w' => e = .returned (.string u) ∧ w' = W) := Lib.hid (fun W => by rw [← hu]; exact short_any s 60 (by omega) hs W)
  have hq456 : q.size ≤ maxLen := by unfold maxLen; omega
  clear hl hR hq hu hcs
  go_enter Tryd.func3, Tryd.ntmps3
  go_wp2_with fail
  refine (text_any l v w HL.out).mono ?_
  rintro e w1 ⟨t, rfl, ht, hb1⟩
  have ht2 : t.size ≤ maxLen := by unfold maxLen; omega
  go_wp2_with fail
  have B1 := Lib.hid hb1
  clear hb1
  refine (agrees_any t ht2 w1 (HR.out.below B1.out)).mono ?_
  rintro e w2 ⟨rfl, hb2⟩
  have B2 := Lib.hid (B1.out.trans (hb2.mono B1.out.size))
  clear hb2
  go_wp2_with fail
  refine (HC.out w2 (HL.out.below B2.out)).mono ?_
  rintro e w3 ⟨rfl, hb3⟩
  have B3 := Lib.hid (B2.out.trans (hb3.mono B2.out.size))
  clear hb3
  go_wp2_with fail
  refine (agrees_any q hq456 w3 (HR.out.below B3.out)).mono ?_
  rintro e w4 ⟨rfl, hb4⟩
  have B4 := Lib.hid (B3.out.trans (hb4.mono B3.out.size))
  clear hb4
  go_wp2_with fail
  refine (HS.out w4).mono ?_
  rintro e w4' ⟨rfl, rfl⟩
  go_wp2_with fail
  refine (agrees_any u hs2 _ (HR.out.below B4.out)).mono ?_
  rintro e w5 ⟨rfl, hb5⟩
  have B5 := Lib.hid (B4.out.trans (hb5.mono B4.out.size))
  clear hb5
  go_wp2_with fail
  refine (lives_any w5 (HR.out.below B5.out)).mono ?_
  rintro e w6 ⟨rfl, hb6⟩
  have B6 := Lib.hid (B5.out.trans (hb6.mono B5.out.size))
  clear hb6
  go_wp2_with fail
  go_ret
  exact ⟨rfl, B6.out⟩

end Go.Proofs.YtgmlghmlmfbfjaaDoor
