/- strings.Cut at a line feed -/
import Derived.Test.YtgmlghmlmfbfjaaDoorIb
import Derived.Test.YtgmlghmlmfbfjaaDoorPureb
namespace Go.Proofs.YtgmlghmlmfbfjaaDoor
open Go.RowKit

theorem line_index : ∀ l : List UInt8, (0 ≤ Lib.indexByte l 10 → Lib.indexByte l 10 = (Lx.tw Lx.notNl l : Int)) ∧ (Lib.indexByte l 10 < 0 → Lx.tw Lx.notNl l = l.length)
  | [] => ⟨fun h => absurd h (by simp [Lib.indexByte]), fun _ => rfl⟩
  | b :: l => by
    obtain ⟨i1, i2⟩ := line_index l
    have hg := indexByte_ge l 10
    rw [indexByte_cons]
    by_cases h : b.toNat = 10
    · have hb : (b == 10) = true := by rw [beq_iff_eq]; exact UInt8.toNat_inj.1 h
      rw [if_pos hb, Lx.tw_stop (by simp [Lx.notNl, h])]
      exact ⟨fun _ => rfl, fun h => absurd h (by decide)⟩
    · have hb : ¬ (b == 10) = true := by rw [beq_iff_eq]; intro e; subst e; exact h rfl
      rw [if_neg hb, Lx.tw_go (by simp [Lx.notNl, h])]
      by_cases hm : Lib.indexByte l 10 = -1
      · rw [if_pos (by rw [hm]; rfl)]
        refine ⟨fun h => absurd h (by decide), fun _ => ?_⟩
        rw [i2 (by omega), List.length_cons]; omega
      · rw [if_neg (by simpa using hm)]
        refine ⟨fun _ => ?_, fun h => by omega⟩
        rw [i1 (by omega)]; omega

theorem index_lt : ∀ (l : List UInt8) (c : UInt8), Lib.indexByte l c < l.length ∨ l = []
  | [], _ => .inr rfl
  | b :: l, c => by
    have hg := indexByte_ge l c
    left
    rw [indexByte_cons, List.length_cons]
    rcases index_lt l c with h | h
    · split
      · omega
      · split <;> omega
    · subst h
      split
      · simp
      · simp [Lib.indexByte]
theorem extract_all (s : ByteArray) : s.extract 0 s.size = s := WideShapes.bytes_inj (by rw [Lib.extract_data, List.drop_zero, Nat.sub_zero, List.take_of_length_le (by simp)])
def CutPost (s : ByteArray) (n : Nat) (w : World) (e : Ending) (w' : World) : Prop := ∃ (y : ByteArray) (b : Bool) (q : Nat), e = .returned (.tuple #[.string (s.extract 0 n), .string y, .bool b]) ∧ w' = w.drewN q
set_option maxRecDepth 100000 in
set_option maxHeartbeats 1000000 in
theorem cutIn_any (s : ByteArray) (hs : s.size ≤ maxLen) (n : Nat) (hn : Lx.tw Lx.notNl s.data.toList = n) (w : World) :
    Calls Tryd.prog 44 #[.string s, .string ⟨#[10]⟩] w (CutPost s n w) := by
  unfold maxLen at hs
  have hle := Lx.tw_le Lx.notNl s.data.toList
  rw [hn] at hle
  have hli := line_index s.data.toList
  have hlt0 := index_lt s.data.toList 10
  obtain ⟨i, hi⟩ : ∃ i, Lib.indexByte s.data.toList 10 = i := ⟨_, rfl⟩
  have HI : Calls Tryd.prog 53 #[.string s, .string ⟨#[10]⟩] w fun e w' => e = .returned (.int .i64 i) ∧ w = w' :=
    (Tryd.stringslite_Index_one s 10 w).mono fun _ _ h => ⟨by rw [h.1, hi], h.2.symm⟩
  rw [hi, hn] at hli
  rw [hi] at hlt0
  have hls : s.data.toList.length = s.size := by simp
  rw [hls] at hle hli hlt0
  have H := Lib.hid HI
  have hls0 := hls
  have hi0 := hi
  clear HI hi hls
  by_cases h0 : 0 ≤ i
  · obtain rfl := hli.1 h0
    have hlt : n < s.size := by
      rcases hlt0 with h | h
      · omega
      · rw [h] at hi0; simp [Lib.indexByte] at hi0
    have H2 := Lib.hid hn
    have H3 := Lib.hid hi0
    clear hli hn hi0 hlt0
    have f2 : (n : Int) ≤ (s.size : Int) := by omega
    have f3 : (n : Int) + 1 ≤ (s.size : Int) := by omega
    have f4 : (0 : Int) ≤ (n : Int) + 1 := by omega
    go_enter Tryd.func44, Tryd.ntmps44
    go_wp2_with fail
    refine H.out.mono ?_
    rintro e w' ⟨rfl, rfl⟩
    go_wp2_with fail
    go_quiet (fail)
    go_wp2
    go_ret3
    exact ⟨_, _, _, rfl, rfl⟩
  · have hin : i < 0 := by omega
    have h2 := hli.2 hin
    have H2 := Lib.hid h2
    clear hli h2 hlt0 hn hls0 hi0
    go_enter Tryd.func44, Tryd.ntmps44
    go_wp2_with fail
    refine H.out.mono ?_
    rintro e w' ⟨rfl, rfl⟩
    go_wp2_with fail
    go_ret3
    exact ⟨_, _, 0, by rw [H2.out, extract_all]; rfl, rfl⟩

set_option maxRecDepth 100000 in
theorem cut_any (s : ByteArray) (hs : s.size ≤ maxLen) (n : Nat) (hn : Lx.tw Lx.notNl s.data.toList = n) (w : World) :
    Calls Tryd.prog 35 #[.string s, .string ⟨#[10]⟩] w (CutPost s n w) := by
  have H := Lib.hid (cutIn_any s hs n hn w)
  clear hn
  go_enter Tryd.func35, Tryd.ntmps35
  go_wp2_with fail
  refine H.out.mono ?_
  rintro e w' ⟨y, b, q, rfl, rfl⟩
  go_wp2_with fail
  go_ret3
  exact ⟨_, _, _, rfl, rfl⟩

end Go.Proofs.YtgmlghmlmfbfjaaDoor
