/- value -/
import Derived.Test.YtgmlghmlmfbfjaaDoorTa
import Derived.Test.YtgmlghmlmfbfjaaDoorTb
import Derived.OwnWalk
import Derived.Laws.AppendOwn
import Derived.Maps.AppendAt
namespace Go.Proofs.YtgmlghmlmfbfjaaDoor
open Go.RowKit

def lim : Nat := 1099511627777
theorem lim_eq : lim = 1099511627777 := rfl
def capAt (m a : Nat) : Nat := if m < a then m else a
def vcap (a : Nat) (l : List UInt8) : Nat := capAt lim (Lx.decF a l)
theorem decF_mono : ∀ (l : List UInt8) (a b : Nat), a ≤ b → Lx.decF a l ≤ Lx.decF b l
  | [], _, _, h => h
  | c :: r, a, b, h => decF_mono r _ _ (by omega)
theorem decF_ge : ∀ (l : List UInt8) (a : Nat), a ≤ Lx.decF a l
  | [], a => Nat.le_refl a
  | c :: r, a => by
    have h := decF_ge r (10 * a + (c.toNat - 48))
    show a ≤ Lx.decF (10 * a + (c.toNat - 48)) r
    generalize Lx.decF (10 * a + (c.toNat - 48)) r = z at *
    omega
/-- A number that is cut at m on the way gives the same, cut there. -/
theorem cap_cut (m : Nat) (l : List UInt8) (a : Nat) : capAt m (Lx.decF (capAt m a) l) = capAt m (Lx.decF a l) := by
  by_cases h : m < a
  · have h1 := decF_ge l a
    have h3 : capAt m a = m := if_pos h
    rw [h3]
    have h2 := decF_ge l m
    unfold capAt
    rw [if_pos (show m < Lx.decF a l by omega)]
    split <;> omega
  · have h3 : capAt m a = a := if_neg h
    rw [h3]
theorem vcap_cons (a : Nat) (c : UInt8) (r : List UInt8) : vcap (capAt lim (10 * a + (c.toNat - 48))) r = vcap a (c :: r) := cap_cut lim r _

set_option maxHeartbeats 1000000 in
theorem value_any (s : ByteArray) (w : World) (hs : s.size ≤ maxLen) (hd : ∀ c ∈ s.data.toList, Lx.digit c) :
    Calls Tryd.prog 30 #[.string s] w fun e w' => e = .returned (.int .i64 (vcap 0 s.data.toList : Nat)) ∧ w' = w := by
  unfold maxLen at hs
  have HD := Lib.hid hd
  clear hd
  go_enter Tryd.func30, Tryd.ntmps30
  go_wp2
  go_loop [3, 4] (fun n t => ∃ (a k : Nat), k ≤ s.size ∧ a ≤ 1099511627777 ∧ n = .int .i64 a ∧ t = .int .i64 k ∧ Hid (vcap a (s.data.toList.drop k) = vcap 0 s.data.toList)) (fun _ t => s.size - (intOf t).toNat)
  case atStart => exact ⟨0, 0, by omega, by omega, rfl, rfl, Lib.hid rfl⟩
  case round =>
    obtain ⟨a, k, hk, ha, rfl, rfl, HE⟩ := hrel
    by_cases hlt : k < s.size
    · have hdig : Lx.digit s[k] := HD.out _ (by simp [ByteArray.getElem_eq_getElem_data])
      have hd1 := hdig.1
      have hd2 := hdig.2
      clear hdig
      go_wp2
      go_round
      case rel =>
        refine ⟨capAt lim (10 * a + (s[k].toNat - 48)), k + 1, by omega, ?_, ?_, by go_num, Lib.hid ?_⟩
        · unfold capAt; rw [lim_eq]; split <;> omega
        · unfold capAt; rw [lim_eq]
          congr 1
          split <;> rename_i h1
          · rw [if_pos (by omega)]; rfl
          · rw [if_neg (by omega)]; omega
        · rw [vcap_cons, ← drop_cons s k hlt]; exact HE.out
      case measure => simp [intOf]; omega
    · go_wp2
      go_ret
      refine ret_i ?_
      have HE1 := HE.out
      rw [drop_end s k (by omega)] at HE1
      rw [← HE1]
      unfold vcap capAt Lx.decF
      rw [lim_eq, if_neg (by omega)]

end Go.Proofs.YtgmlghmlmfbfjaaDoor
