/- LexerBytes, walked. -/
import Derived.Test.YtgmlghmlmfbfjaaDoorHa
import Derived.Deep.RegionHeld3
import Derived.Laws.IdiomStrings
import Derived.Deep.DeepFit
namespace Go.Proofs.YtgmlghmlmfbfjaaDoor
open Go Go.RowKit

theorem byte_of {b : Int} (h : 0 ≤ b ∧ b < 256) : ∃ c : UInt8, (c.toNat : Int) = b := by
  refine ⟨UInt8.ofNat b.toNat, ?_⟩
  rw [UInt8.toNat_ofNat_of_lt' (by show b.toNat < 256; omega)]; omega
theorem conv_byte (c : UInt8) (W : World) (g : Nat) (h : W.cell? ⟨g, 0, none⟩ = some (.int .u8 (c.toNat : Int))) :
    (Go.convert 29 9 (.slice (some ⟨g, 0, none⟩) 1 1)).run Tryd.prog W = .ok (.string ⟨#[c]⟩) W :=
  run_convert_bytes_back W 29 9 5 ⟨g, 0, none⟩ 1 [c] Tryd.underlying29 Tryd.underlying5 Tryd.underlying9 (fun j hj => by
    have hj0 : j = 0 := by simp at hj; omega
    subst hj0
    exact h)
theorem mid_sizeB (q : ByteArray) (k j : Nat) (c : UInt8) (hq : q.size ≤ 457) : (q.extract 0 k ++ (⟨#[c]⟩ : ByteArray) ++ q.extract j q.size).size ≤ maxLen := by
  have h1 := ByteArray.size_extract (a := q) (b := 0) (e := k)
  have h2 := ByteArray.size_extract (a := q) (b := j) (e := q.size)
  have h3 : (⟨#[c]⟩ : ByteArray).size = 1 := rfl
  rw [ByteArray.size_append, ByteArray.size_append]
  unfold maxLen; omega

set_option maxRecDepth 100000 in
set_option maxHeartbeats 2000000 in
theorem lexerBytes_any (l : List Int) (v : Value) (i b : Int) (put : Bool) (w : World) (hl : IntSl w v l) (hi : I64 i) (hb : 0 ≤ b ∧ b < 256) (hR : RangeOk w) :
    Calls Tryd.prog 4 #[v, .int .i64 i, .int .u8 b, .bool put] w fun e w' => e = .returned (.bool true) ∧ Below w.heap.size w w' := by
  obtain ⟨c, rfl⟩ := byte_of hb
  clear hb
  have HL := Lib.hid hl
  have HR := Lib.hid hR
  have hcs := cleanB_size l
  generalize hq : (⟨(cleanL l).toArray⟩ : ByteArray) = q0 at *
  have HC : Hid (∀ W, IntSl W v l → Calls Tryd.prog 12 #[v] W fun e w' => e = .returned (.string q0) ∧ Below W.heap.size W w') := Lib.hid (fun W h => by rw [← hq]; exact clean_any l v W h)
  clear hl hR hq
  have hfit : q0.size + 1 ≤ 140737488355328 := by omega
  go_enter Tryd.func4, Tryd.ntmps4
  go_wp2_with fail
  refine (HC.out w HL.out).mono ?_
  rintro e w1 ⟨rfl, hb1⟩
  have B1 := Lib.hid hb1
  clear hb1
  go_wp2_with fail
  have hk := around_lt i (q0.size + 1) (by omega)
  have HA : Calls Tryd.prog 15 #[.int .i64 i, .int .i64 ((q0.size : Int) + 1)] w1 fun e w' => e = .returned (.int .i64 (around i (q0.size + 1) : Int)) ∧ w' = w1 := around_any i (q0.size + 1) hi (by omega) (by omega) w1
  go_fit HA
  rintro e w1' ⟨rfl, rfl⟩
  clear HA
  generalize around i (q0.size + 1) = k at *
  have f0 : (0 : Int) ≤ (k : Int) := by omega
  have f1 : (k : Int) ≤ (q0.size : Int) + 1 := by omega
  have hqs : (q0 ++ (⟨#[120]⟩ : ByteArray)).size = q0.size + 1 := ByteArray.size_append
  have hmid := fun (j : Nat) (c : UInt8) => mid_sizeB (q0 ++ (⟨#[120]⟩ : ByteArray)) k j c (by omega)
  simp only [hqs] at hmid
  generalize q0 ++ (⟨#[120]⟩ : ByteArray) = q at *
  have cv := fun W g => conv_byte c W g
  cases put with
  | true =>
    go_wp2_with fail
    go_region_with (first
      | (go_at_call 10; refine (agrees_any _ (by exact hmid _ _) _ (by exact HR.out.below ((B1.out.alloc B1.out.size _).drew))).mono ?_; rintro e w2 ⟨rfl, hb2⟩; have B2 := Lib.hid (((B1.out.alloc B1.out.size _).drew).trans (hb2.mono (Nat.le_trans B1.out.size (by simp)))); clear hb2)
      | (go_at_call 14; refine (lives_any _ (by exact HR.out.below B2.out)).mono ?_; rintro e w3 ⟨rfl, hb3⟩; have B3 := Lib.hid (B2.out.trans (hb3.mono B2.out.size)); clear hb3))
    all_goals
      go_wp2_with fail
      go_ret
      exact ⟨rfl, B3.out⟩
  | false =>
    have f2 : (0 : Int) ≤ (k : Int) + 1 := by omega
    have f3 : (k : Int) + 1 ≤ (q.size : Int) := by omega
    have f4 : ((k : Int) + 1).toNat = k + 1 := by omega
    have f5 : IntKind.i64.wrap ((k : Int) + 1) = (k : Int) + 1 := IntWalk.i64_in _ ⟨by omega, by omega⟩
    go_wp2_with fail
    go_region_with (first
      | (go_at_call 10; refine (agrees_any _ (by exact hmid _ _) _ (by exact HR.out.below ((B1.out.alloc B1.out.size _).drew))).mono ?_; rintro e w2 ⟨rfl, hb2⟩; have B2 := Lib.hid (((B1.out.alloc B1.out.size _).drew).trans (hb2.mono (Nat.le_trans B1.out.size (by simp)))); clear hb2)
      | (go_at_call 14; refine (lives_any _ (by exact HR.out.below B2.out)).mono ?_; rintro e w3 ⟨rfl, hb3⟩; have B3 := Lib.hid (B2.out.trans (hb3.mono B2.out.size)); clear hb3))
    all_goals
      go_wp2_with fail
      go_ret
      exact ⟨rfl, B3.out⟩

end Go.Proofs.YtgmlghmlmfbfjaaDoor
