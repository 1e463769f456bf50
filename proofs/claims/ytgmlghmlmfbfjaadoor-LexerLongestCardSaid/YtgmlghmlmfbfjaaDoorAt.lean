/- strconv.Atoi at digits. -/
import Derived.Test.YtgmlghmlmfbfjaaDoorVa
import Derived.Test.YtgmlghmlmfbfjaaDoorShelf
import Derived.Lib.ConvBytes
namespace Go.Proofs.YtgmlghmlmfbfjaaDoor
open Go Go.RowKit
theorem parse_digits : ∀ (l : List UInt8) (acc : Nat), (∀ c ∈ l, Lx.digit c) → acc < 18446744073709551616 →
    (Lx.decF acc l < 18446744073709551616 → Lib.parseUint10 acc l = .ok (Lx.decF acc l)) ∧ (18446744073709551616 ≤ Lx.decF acc l → Lib.parseUint10 acc l = .range)
  | [], acc, _, ha => ⟨fun _ => rfl, fun h => by have h' : 18446744073709551616 ≤ acc := h; omega⟩
  | c :: r, acc, hd, ha => by
    have hc := hd c (by simp)
    have hr : ∀ d ∈ r, Lx.digit d := fun d h => hd d (by simp [h])
    have hge := decF_ge r (10 * acc + (c.toNat - 48))
    have hdef : Lx.decF acc (c :: r) = Lx.decF (10 * acc + (c.toNat - 48)) r := rfl
    have ih := parse_digits r (10 * acc + (c.toNat - 48)) hr
    have e : acc * 10 + (c.toNat - 48) = 10 * acc + (c.toNat - 48) := by omega
    rw [hdef]
    generalize Lx.decF (10 * acc + (c.toNat - 48)) r = z at *
    simp only [Lib.parseUint10]
    have hc' : 48 ≤ c.toNat ∧ c.toNat ≤ 57 := hc
    rw [if_pos hc', e]
    by_cases h1 : 1844674407370955162 ≤ acc
    · rw [if_pos h1]; exact ⟨fun h => by omega, fun _ => rfl⟩
    · rw [if_neg h1]
      by_cases h2 : 18446744073709551616 ≤ 10 * acc + (c.toNat - 48)
      · rw [if_pos h2]; exact ⟨fun h => by omega, fun _ => rfl⟩
      · rw [if_neg h2]; exact ih (by omega)
theorem atoi_digits (l : List UInt8) (hne : l ≠ []) (hd : ∀ c ∈ l, Lx.digit c) :
    (Lx.dec l < 9223372036854775808 → Lib.atoiAll l = .ok (Lx.dec l : Int)) ∧ (9223372036854775808 ≤ Lx.dec l → Lib.atoiAll l = .range) := by
  cases l with
  | nil => exact absurd rfl hne
  | cons c r =>
    have hc := hd c (by simp)
    have hp := parse_digits (c :: r) 0 hd (by omega)
    have hdef : Lx.dec (c :: r) = Lx.decF 0 (c :: r) := rfl
    rw [hdef]
    unfold Lx.digit at hc
    have h43 : ¬ (c.toNat = 43 ∨ c.toNat = 45) := by omega
    have h45 : ¬ c.toNat = 45 := by omega
    simp only [Lib.atoiAll, Lib.parseMag]
    rw [if_neg h43, if_neg (by simp)]
    generalize Lx.decF 0 (c :: r) = z at *
    refine ⟨fun h => ?_, fun h => ?_⟩
    · rw [hp.1 (by omega)]
      simp only [h45, not_false_eq_true, true_and, false_and, if_false]
      rw [if_neg (by omega)]
    · by_cases h64 : z < 18446744073709551616
      · rw [hp.1 h64]
        simp only [h45, not_false_eq_true, true_and]
        rw [if_pos h]
      · rw [hp.2 (by omega)]

/-- What the failing way reads: strconv.ErrRange holds an interface value. -/
def RangeOk (w : World) : Prop := ∃ ev, w.cell? ⟨1, 0, none⟩ = some ev ∧ (ev = .nilIface ∨ ∃ te pe, ev = .iface te pe)
theorem RangeOk.below {w w' : World} (h : RangeOk w) (hb : Below w.heap.size w w') : RangeOk w' := by
  obtain ⟨ev, hc, he⟩ := h
  exact ⟨ev, (hb.cell (p := ⟨1, 0, none⟩) (World.block_lt_of_cell? w _ hc)).trans hc, he⟩
theorem atoi_ok (s : ByteArray) (hs : s.size ≤ 8192) (hne : s.data.toList ≠ []) (hd : ∀ c ∈ s.data.toList, Lx.digit c) (d : Nat) (hdv : Lx.dec s.data.toList = d) (hlt : d < 9223372036854775808) (w : World) :
    Calls Tryd.prog 24 #[.string s] w fun e w' => e = .returned (.tuple #[.int .i64 (d : Int), .nilIface]) ∧ Below w.heap.size w w' :=
  (Tryd.strconv_Atoi_ok s (by omega) d (by rw [(atoi_digits _ hne hd).1 (by omega), hdv]) w).mono fun e w' ⟨he, hw⟩ => ⟨he, by
    rcases hw with rfl | ⟨t, rfl⟩
    · exact Below.refl _ _
    · exact ⟨rfl, rfl, rfl, by rw [Lib.bytesWorld_size]; omega, fun j hj => Lib.bytesWorld_at_old w 5 t j hj⟩⟩
theorem atoi_range (s : ByteArray) (hs : s.size ≤ 8192) (hne : s.data.toList ≠ []) (hd : ∀ c ∈ s.data.toList, Lx.digit c) (hge : 9223372036854775808 ≤ Lx.dec s.data.toList) (w : World) (hR : RangeOk w) :
    Calls Tryd.prog 24 #[.string s] w fun e w' => ∃ (i : Int) (N : Nat), e = .returned (.tuple #[.int .i64 i, .iface 80 (.pointer (some ⟨N, 0, none⟩))]) ∧ Below w.heap.size w w' := by
  obtain ⟨ev, hc, he⟩ := hR
  exact (Tryd.strconv_Atoi_range s (by omega) ((atoi_digits _ hne hd).2 hge) ev w hc he).mono fun e w' ⟨N, h1, _, _, h4⟩ => ⟨_, N, h1, h4⟩

end Go.Proofs.YtgmlghmlmfbfjaaDoor
