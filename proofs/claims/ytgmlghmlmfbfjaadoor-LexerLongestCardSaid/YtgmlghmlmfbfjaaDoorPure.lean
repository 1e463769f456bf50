/- The plain lexer: what package lexer and its reference compute, over lists of bytes; no program. -/
namespace Go.Proofs.YtgmlghmlmfbfjaaDoor
namespace Lx

/-- The class of a byte: 0 blank, 1 small, 2 capital, 3 digit, 4 underscore, 5 comment, 6 other. -/
def clsN (n : Nat) : Nat :=
  if n = 32 ∨ n = 9 ∨ n = 10 then 0
  else if n = 95 then 4
  else if n = 35 then 5
  else if 97 ≤ n ∧ n ≤ 122 then 1
  else if 65 ≤ n ∧ n ≤ 90 then 2
  else if 48 ≤ n ∧ n ≤ 57 then 3
  else 6
def cls (c : UInt8) : Nat := clsN c.toNat

/-- Whether a byte stands within a comment, or begins one. -/
def nextC (cm : Bool) (c : UInt8) : Bool := if c.toNat = 10 then false else if c.toNat = 35 then true else cm
/-- How many bytes stand ahead of the next token ('cm': within a comment). -/
def skipL : Bool → List UInt8 → Nat
  | _, [] => 0
  | cm, c :: r => if nextC cm c = false ∧ cls c ≠ 0 then 0 else 1 + skipL (nextC cm c) r
theorem skipL_stop {cm : Bool} {c : UInt8} {r : List UInt8} (h : nextC cm c = false) (h0 : cls c ≠ 0) : skipL cm (c :: r) = 0 := by
  simp only [skipL]; rw [if_pos ⟨h, h0⟩]
theorem skipL_go {cm : Bool} {c : UInt8} {r : List UInt8} (h : ¬ (nextC cm c = false ∧ cls c ≠ 0)) : skipL cm (c :: r) = 1 + skipL (nextC cm c) r := by
  simp only [skipL]; rw [if_neg h]
theorem skipL_le : ∀ (l : List UInt8) (cm : Bool), skipL cm l ≤ l.length
  | [], _ => Nat.le_refl _
  | c :: r, cm => by
    by_cases h : nextC cm c = false ∧ cls c ≠ 0
    · rw [skipL_stop h.1 h.2]; omega
    · have := skipL_le r (nextC cm c)
      rw [skipL_go h, List.length_cons]; omega

/-- The bytes that go on a Word, a Capital, a Number. -/
def p1 (c : UInt8) : Bool := cls c == 1 || cls c == 3 || cls c == 4
def p2 (c : UInt8) : Bool := decide (1 ≤ cls c) && decide (cls c ≤ 4)
def p3 (c : UInt8) : Bool := cls c == 3
/-- How many bytes at the begin have a property. -/
def tw (p : UInt8 → Bool) : List UInt8 → Nat
  | [] => 0
  | c :: r => if p c = true then 1 + tw p r else 0
theorem tw_go {p : UInt8 → Bool} {c : UInt8} {r : List UInt8} (h : p c = true) : tw p (c :: r) = 1 + tw p r := by simp only [tw]; rw [if_pos h]
theorem tw_stop {p : UInt8 → Bool} {c : UInt8} {r : List UInt8} (h : p c = false) : tw p (c :: r) = 0 := by simp only [tw]; rw [if_neg (by simp [h])]
theorem tw_le (p : UInt8 → Bool) : ∀ l : List UInt8, tw p l ≤ l.length
  | [] => Nat.le_refl _
  | c :: r => by
    have := tw_le p r
    simp only [tw, List.length_cons]; split <;> omega

/-- The symbols; those of two bytes first. -/
def syms : List (List UInt8) := [[45, 62], [60, 45], [60, 61], [61, 61], [33, 61], [46, 46], [40], [41], [91], [93], [123], [125], [44], [59], [58], [61], [60], [43], [45], [42], [47], [124]]
/-- The first of some texts that begins l: how long it is; 0: none. -/
def symIn : List (List UInt8) → List UInt8 → Nat
  | [], _ => 0
  | t :: r, l => if t.isPrefixOf l = true then t.length else symIn r l
/-- How long the token at the begin of a text is; 0: there is none. -/
def tokLen : List UInt8 → Nat
  | [] => 0
  | c :: r =>
    if cls c = 1 then 1 + tw p1 r
    else if cls c = 2 then 1 + tw p2 r
    else if cls c = 3 then 1 + tw p3 r
    else symIn syms (c :: r)

theorem symIn_le : ∀ (t : List (List UInt8)) (l : List UInt8), symIn t l ≤ l.length
  | [], _ => Nat.zero_le _
  | t :: r, l => by
    simp only [symIn]
    split
    · rename_i h
      exact (List.isPrefixOf_iff_prefix.1 h).length_le
    · exact symIn_le r l
theorem tokLen_le (l : List UInt8) : tokLen l ≤ l.length := by
  cases l with
  | nil => exact Nat.le_refl _
  | cons c r =>
    have h1 := tw_le p1 r
    have h2 := tw_le p2 r
    have h3 := tw_le p3 r
    have h4 := symIn_le syms (c :: r)
    simp only [tokLen, List.length_cons] at *
    repeat' split
    all_goals omega
theorem cls_le (c : UInt8) : cls c ≤ 6 := by unfold cls clsN; (repeat' split) <;> omega

/-- The value of digits. -/
def decF : Nat → List UInt8 → Nat
  | a, [] => a
  | a, c :: r => decF (10 * a + (c.toNat - 48)) r
def dec (l : List UInt8) : Nat := decF 0 l
def digit (c : UInt8) : Prop := 48 ≤ c.toNat ∧ c.toNat ≤ 57
theorem digit_of_cls {c : UInt8} (h : cls c = 3) : digit c := by
  unfold cls clsN at h
  unfold digit
  repeat' split at h
  all_goals first | omega | assumption
theorem tw_digits : ∀ (l : List UInt8) (c : UInt8), c ∈ l.take (tw p3 l) → digit c
  | [], c, h => by simp at h
  | d :: r, c, h => by
    by_cases hd : p3 d = true
    · rw [tw_go hd, Nat.add_comm, List.take_succ_cons, List.mem_cons] at h
      rcases h with rfl | h
      · exact digit_of_cls (by simpa [p3] using hd)
      · exact tw_digits r c h
    · rw [tw_stop (by simpa using hd)] at h; simp at h

/-- A token. -/
structure Tok where
  kind : Nat
  at_ : Nat
  num : Nat
  text : List UInt8
def kindOf (c : UInt8) : Nat := if cls c = 1 then 0 else if cls c = 2 then 1 else if cls c = 3 then 2 else 3
def numOf (c : UInt8) (t : List UInt8) : Nat := if cls c = 3 then dec t else 0
/-- A token that does not fit. -/
def wide (c : UInt8) (t : List UInt8) : Bool := if cls c = 1 ∨ cls c = 2 then decide (16 < t.length) else if cls c = 3 then decide (1099511627776 < dec t) else false
/-- From the begin of a token, or the end: the tokens, and (0, 0) or the place and the number of the error. -/
def lexGo : Nat → Nat → List UInt8 → List Tok × Nat × Nat
  | 0, _, _ => ([], 0, 0)
  | _ + 1, _, [] => ([], 0, 0)
  | f + 1, a, c :: r =>
    if tokLen (c :: r) = 0 then ([], a, 2)
    else if wide c ((c :: r).take (tokLen (c :: r))) = true then ([], a, 4)
    else
      let n := tokLen (c :: r)
      let k := skipL false ((c :: r).drop n)
      let z := lexGo f (a + n + k) ((c :: r).drop (n + k))
      ({ kind := kindOf c, at_ := a, num := numOf c ((c :: r).take n), text := (c :: r).take n } :: z.1, z.2)
theorem lexGo_none {f a : Nat} {c : UInt8} {r : List UInt8} (h : tokLen (c :: r) = 0) : lexGo (f + 1) a (c :: r) = ([], a, 2) := by
  simp only [lexGo]; rw [if_pos h]
theorem lexGo_wide {f a : Nat} {c : UInt8} {r : List UInt8} (h : tokLen (c :: r) ≠ 0) (hw : wide c ((c :: r).take (tokLen (c :: r))) = true) : lexGo (f + 1) a (c :: r) = ([], a, 4) := by
  simp only [lexGo]; rw [if_neg h, if_pos hw]
theorem lexGo_go {f a : Nat} {c : UInt8} {r : List UInt8} (h : tokLen (c :: r) ≠ 0) (hw : wide c ((c :: r).take (tokLen (c :: r))) = false) {k : Nat} (hk : skipL false ((c :: r).drop (tokLen (c :: r))) = k) :
    lexGo (f + 1) a (c :: r) = ({ kind := kindOf c, at_ := a, num := numOf c ((c :: r).take (tokLen (c :: r))), text := (c :: r).take (tokLen (c :: r)) } :: (lexGo f (a + tokLen (c :: r) + k) ((c :: r).drop (tokLen (c :: r) + k))).1, (lexGo f (a + tokLen (c :: r) + k) ((c :: r).drop (tokLen (c :: r) + k))).2) := by
  subst hk
  simp only [lexGo]; rw [if_neg h, if_neg (by rw [hw]; decide)]
/-- All of a text: the tokens, the place, the error. -/
def lexAll (l : List UInt8) : List Tok × Nat × Nat :=
  if 8192 < l.length then ([], 0, 4)
  else
    let k := skipL false l
    let z := lexGo (l.length + 1) k (l.drop k)
    if z.2.2 = 0 then (z.1, 0, 0) else ([], z.2.1, z.2.2)

end Lx
end Go.Proofs.YtgmlghmlmfbfjaaDoor
