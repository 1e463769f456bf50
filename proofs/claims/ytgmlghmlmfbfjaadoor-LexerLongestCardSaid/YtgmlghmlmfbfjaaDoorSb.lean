/- agrees, lives. -/
import Derived.Test.YtgmlghmlmfbfjaaDoorSa
import Derived.Test.YtgmlghmlmfbfjaaDoorKa
namespace Go.Proofs.YtgmlghmlmfbfjaaDoor
open Go Go.RowKit

theorem lexGo_len : ∀ (f a : Nat) (l : List UInt8), (Lx.lexGo f a l).1.length ≤ l.length
  | 0, _, _ => Nat.zero_le _
  | _ + 1, _, [] => Nat.zero_le _
  | f + 1, a, c :: r => by
    by_cases h : Lx.tokLen (c :: r) = 0
    · rw [Lx.lexGo_none h]; exact Nat.zero_le _
    · cases hw : Lx.wide c ((c :: r).take (Lx.tokLen (c :: r))) with
      | true => rw [Lx.lexGo_wide h hw]; exact Nat.zero_le _
      | false =>
        rw [Lx.lexGo_go h hw rfl]
        have := lexGo_len f (a + Lx.tokLen (c :: r) + Lx.skipL false ((c :: r).drop (Lx.tokLen (c :: r)))) ((c :: r).drop (Lx.tokLen (c :: r) + Lx.skipL false ((c :: r).drop (Lx.tokLen (c :: r)))))
        simp only [List.length_drop] at this
        simp only [List.length_cons] at *
        omega
theorem lexR_len (l : List UInt8) : (lexR l).1.length ≤ 8192 := by
  unfold lexR
  split
  · exact Nat.zero_le _
  · have h1 : (lexZ l).1.length ≤ l.length := by
      have := lexGo_len (l.length + 1) (Lx.skipL false l) (l.drop (Lx.skipL false l))
      rw [List.length_drop] at this
      exact Nat.le_trans this (by omega)
    unfold outOf
    split
    · simp only; omega
    · exact Nat.zero_le _

set_option maxRecDepth 100000 in
set_option maxHeartbeats 4000000 in
theorem agrees_any (s : ByteArray) (hs : s.size ≤ maxLen) (w : World) (hR : RangeOk w) : Calls Tryd.prog 10 #[.string s] w fun e w' => e = .returned (.bool true) ∧ Below w.heap.size w w' := by
  obtain ⟨r, hr⟩ : ∃ r, lexR s.data.toList = r := ⟨_, rfl⟩
  have hlen := lexR_len s.data.toList
  rw [hr] at hlen
  have H1 := Lib.hid (tokens_any s hs r hr w hR)
  have H2 : Hid (∀ W, Calls Tryd.prog 22 #[.string s] W (ResPost 57 r W)) := Lib.hid (fun W => refTokens_any s hs r hr W)
  clear hr
  go_enter Tryd.func10, Tryd.ntmps10
  go_wp2_with fail
  refine H1.out.mono ?_
  rintro e w1 ⟨va, rfl, hown1, hb1⟩
  have t1 := TokSl.of_own hown1
  go_wp2_with fail
  refine (H2.out _).mono ?_
  rintro e w2 ⟨vb, rfl, hown2, hb2⟩
  have t2 := TokSl.of_own hown2
  have t1' := t1.below hb2
  obtain ⟨A1, c1, rfl, hc1⟩ := t1'.form
  obtain ⟨A2, c2, rfl, hc2⟩ := t2.form
  obtain ⟨n, hn⟩ : ∃ n, r.1.length = n := ⟨_, rfl⟩
  rw [hn] at t1' t2 hc1 hc2 hlen ⊢
  have HT1 := Lib.hid (tokens19 r.1 A1 n c1 w2 t1' hn hlen hc1)
  have T2 := Lib.hid t2
  have B1 := Lib.hid hb1
  have B2 := Lib.hid hb2
  have HN := Lib.hid hn
  clear hown1 hown2 hb1 hb2 t1 t2 t1' hn
  go_wp2_with fail
  refine HT1.out.mono ?_
  rintro e w3 ⟨v3, rfl, hown3, hb3⟩
  rw [← HN.out] at hown3
  have t3 := TokSl.of_own hown3
  obtain ⟨A3, c3, rfl, hc3⟩ := t3.form
  rw [HN.out] at t3 hc3
  have HS := Lib.hid (same_true r.1 r.1 true A3 A2 n c3 c2 w3 t3 (T2.out.below hb3) hlen hc3 hc2 (fun k _ => ⟨rfl, rfl, rfl, fun _ => rfl⟩))
  have B3 := Lib.hid hb3
  clear t3 hown3 hb3
  rw [HN.out]
  go_wp2_with fail
  refine HS.out.mono ?_
  rintro e w4 ⟨rfl, q, rfl⟩
  go_wp2
  go_ret
  exact ⟨rfl, bdn ((B1.out.trans (B2.out.mono B1.out.size)).trans (B3.out.mono (Nat.le_trans B1.out.size B2.out.size))) _⟩

end Go.Proofs.YtgmlghmlmfbfjaaDoor
