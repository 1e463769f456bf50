/- lives. -/
import Derived.Test.YtgmlghmlmfbfjaaDoorSb
import Derived.KernelRfl
namespace Go.Proofs.YtgmlghmlmfbfjaaDoor
open Go Go.RowKit

def e1 : List Lx.Tok := [⟨0, 0, 0, [97, 49]⟩, ⟨3, 2, 0, [60, 45]⟩, ⟨1, 4, 0, [70, 111, 114, 107]⟩, ⟨3, 8, 0, [40]⟩, ⟨2, 9, 12, [49, 50]⟩, ⟨3, 11, 0, [41]⟩]
def e4 : List Lx.Tok := [⟨0, 0, 0, [97]⟩, ⟨3, 1, 0, [60, 61]⟩, ⟨3, 3, 0, [45]⟩, ⟨2, 4, 1, [49]⟩]
theorem lex1 : lexR [97, 49, 60, 45, 70, 111, 114, 107, 40, 49, 50, 41, 35, 99] = (e1, 0, 0) := by kernel_rfl
theorem lex2 : lexR [97, 46, 98] = ([], 1, 2) := by kernel_rfl
theorem lex3 : lexR [120, 32, 49, 48, 57, 57, 53, 49, 49, 54, 50, 55, 55, 55, 55] = ([], 2, 4) := by kernel_rfl
theorem lex4 : lexR [97, 60, 61, 45, 49] = (e4, 0, 0) := by kernel_rfl

set_option maxRecDepth 100000 in
set_option maxHeartbeats 4000000 in
theorem lives_any (w : World) (hR : RangeOk w) : Calls Tryd.prog 14 #[] w fun e w' => e = .returned (.bool true) ∧ Below w.heap.size w w' := by
  have H1 : ∀ W, RangeOk W → Calls Tryd.prog 16 #[.string ⟨#[97, 49, 60, 45, 70, 111, 114, 107, 40, 49, 50, 41, 35, 99]⟩] W (ResPost 38 (e1, 0, 0) W) := fun W h => tokens_any _ (by decide) _ lex1 W h
  have H2 : ∀ W, RangeOk W → Calls Tryd.prog 16 #[.string ⟨#[97, 46, 98]⟩] W (ResPost 38 ([], 1, 2) W) := fun W h => tokens_any _ (by decide) _ lex2 W h
  have H3 : ∀ W, RangeOk W → Calls Tryd.prog 16 #[.string ⟨#[120, 32, 49, 48, 57, 57, 53, 49, 49, 54, 50, 55, 55, 55, 55]⟩] W (ResPost 38 ([], 2, 4) W) := fun W h => tokens_any _ (by decide) _ lex3 W h
  have H4 : ∀ W, RangeOk W → Calls Tryd.prog 16 #[.string ⟨#[97, 60, 61, 45, 49]⟩] W (ResPost 38 (e4, 0, 0) W) := fun W h => tokens_any _ (by decide) _ lex4 W h
  have K1 := Lib.hid H1
  have K2 := Lib.hid H2
  have K3 := Lib.hid H3
  have K4 := Lib.hid H4
  clear H1 H2 H3 H4
  go_enter Tryd.func14, Tryd.ntmps14
  go_wp2_with fail
  refine (K1.out _ hR).mono ?_
  rintro e w1 ⟨v1, rfl, o1, b1⟩
  obtain ⟨A1, c1, rfl, hc1⟩ := (TokSl.of_own o1).form
  have T1 := Lib.hid (TokSl.of_own o1)
  have B1 := Lib.hid b1
  have R1 := hR.below b1
  clear o1 b1
  go_wp2_with fail
  refine (K2.out _ R1).mono ?_
  rintro e w2 ⟨v2, rfl, o2, b2⟩
  obtain ⟨A2, c2, rfl, hc2⟩ := (TokSl.of_own o2).form
  have T2 := Lib.hid (T1.out.below b2)
  have B2 := Lib.hid (B1.out.trans (b2.mono B1.out.size))
  have R2 := R1.below b2
  clear o2 b2 R1 T1 B1
  go_wp2_with fail
  refine (K3.out _ R2).mono ?_
  rintro e w3 ⟨v3, rfl, o3, b3⟩
  obtain ⟨A3, c3, rfl, hc3⟩ := (TokSl.of_own o3).form
  have T3 := Lib.hid (T2.out.below b3)
  have B3 := Lib.hid (B2.out.trans (b3.mono B2.out.size))
  have R3 := R2.below b3
  clear o3 b3 R2 T2 B2
  go_wp2_with fail
  refine (K4.out _ R3).mono ?_
  rintro e w4 ⟨v4, rfl, o4, b4⟩
  obtain ⟨A4, c4, rfl, hc4⟩ := (TokSl.of_own o4).form
  have T4 := Lib.hid (T3.out.below b4)
  have U4 := Lib.hid (TokSl.of_own o4)
  have B4 := Lib.hid (B3.out.trans (b4.mono B3.out.size))
  clear o4 b4 R3 T3 B3 hR
  have l1 : e1.length = 6 := rfl
  have l4 : e4.length = 4 := rfl
  simp only [l1, l4] at T4 U4 hc1 hc4 ⊢
  obtain ⟨g1, rfl, hg1, p10, p11, p12, p13⟩ := tok_cells T4.out 1 (by omega)
  obtain ⟨g2, eg2, _, p20, p21, p22, p23⟩ := tok_cells T4.out 2 (by omega)
  obtain ⟨g4, eg4, _, p40, p41, p42, p43⟩ := tok_cells T4.out 4 (by omega)
  obtain ⟨h1, rfl, hh1, q10, q11, q12, q13⟩ := tok_cells U4.out 1 (by omega)
  obtain rfl : g2 = g1 := by injection eg2 with eg2; injection eg2 with eg2; exact eg2.symm
  obtain rfl : g4 = g2 := by injection eg4 with eg4; injection eg4 with eg4; exact eg4.symm
  clear eg2 eg4 l1 l4 p10 p12 p22 p23 p43 q10 q11 q12
  go_wp2
  go_ret
  exact ⟨rfl, B4.out⟩

end Go.Proofs.YtgmlghmlmfbfjaaDoor
