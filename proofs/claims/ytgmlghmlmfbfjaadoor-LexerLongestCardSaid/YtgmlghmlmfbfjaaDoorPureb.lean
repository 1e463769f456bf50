/- How blanks and comments are passed, piece by piece. -/
import Derived.Test.YtgmlghmlmfbfjaaDoorPure
namespace Go.Proofs.YtgmlghmlmfbfjaaDoor
namespace Lx
def isBl (c : UInt8) : Bool := cls c == 0
def notNl (c : UInt8) : Bool := !(c.toNat == 10)
theorem tw_skip (p : UInt8 → Bool) (l : List UInt8) : ∀ d r, l.drop (tw p l) = d :: r → p d = false := by
  induction l with
  | nil => intro d r h; simp [tw] at h
  | cons c r ih =>
    intro d r' h
    by_cases hc : p c = true
    · rw [tw_go hc, Nat.add_comm, List.drop_succ_cons] at h
      exact ih d r' h
    · rw [tw_stop (by simpa using hc)] at h
      simp only [List.drop_zero, List.cons.injEq] at h
      rw [← h.1]; simpa using hc
theorem skip_blanks : ∀ l : List UInt8, skipL false l = tw isBl l + skipL false (l.drop (tw isBl l))
  | [] => rfl
  | c :: r => by
    by_cases hc : isBl c = true
    · have h0 : cls c = 0 := by simpa [isBl] using hc
      have hn : nextC false c = false := by
        unfold nextC
        split
        · rfl
        · split
          · rename_i h; unfold cls clsN at h0; rw [h] at h0; simp at h0
          · rfl
      rw [tw_go hc, skipL_go (by rw [h0]; simp), hn, Nat.add_comm 1 (tw isBl r), List.drop_succ_cons]
      have := skip_blanks r
      omega
    · rw [tw_stop (by simpa using hc)]; simp
theorem skip_line_true : ∀ l : List UInt8, skipL true l = tw notNl l + skipL false (l.drop (tw notNl l))
  | [] => rfl
  | c :: r => by
    by_cases hc : c.toNat = 10
    · have h0 : notNl c = false := by simp [notNl, hc]
      have hcl : cls c = 0 := by unfold cls clsN; rw [hc]; rfl
      have n1 : nextC true c = false := by unfold nextC; rw [if_pos hc]
      have n2 : nextC false c = false := by unfold nextC; rw [if_pos hc]
      rw [tw_stop h0, List.drop_zero, skipL_go (by rw [hcl]; simp), skipL_go (by rw [hcl]; simp), n1, n2, Nat.zero_add]
    · have h0 : notNl c = true := by simp [notNl, hc]
      have n1 : nextC true c = true := by unfold nextC; rw [if_neg hc]; split <;> rfl
      rw [tw_go h0, skipL_go (by rw [n1]; simp), n1, Nat.add_comm 1 (tw notNl r), List.drop_succ_cons]
      have := skip_line_true r
      omega
theorem skip_comment (c : UInt8) (r : List UInt8) (hc : c.toNat = 35) : skipL false (c :: r) = tw notNl (c :: r) + skipL false ((c :: r).drop (tw notNl (c :: r))) := by
  have h0 : notNl c = true := by simp [notNl, hc]
  have n1 : nextC false c = true := by unfold nextC; rw [if_neg (by omega), if_pos hc]
  rw [tw_go h0, skipL_go (by rw [n1]; simp), n1, Nat.add_comm 1 (tw notNl r), List.drop_succ_cons]
  have := skip_line_true r
  omega
theorem skip_token (c : UInt8) (r : List UInt8) (h0 : cls c ≠ 0) (hc : c.toNat ≠ 35) : skipL false (c :: r) = 0 :=
  skipL_stop (by unfold nextC; rw [if_neg hc]; split <;> rfl) h0

end Lx
end Go.Proofs.YtgmlghmlmfbfjaaDoor
