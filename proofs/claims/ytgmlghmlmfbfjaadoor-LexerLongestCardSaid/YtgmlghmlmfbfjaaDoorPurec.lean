/- How a text is lexed, as a relation; laws of it: texts put behind each other, texts cut off, tokens read again. No program. -/
import Derived.Test.YtgmlghmlmfbfjaaDoorPureb
namespace Go.Proofs.YtgmlghmlmfbfjaaDoor
namespace Lx

/-- From the place a on a text is lexed: tokens, place of the error, error. -/
inductive Lexes : Nat → List UInt8 → List Tok → Nat → Nat → Prop
  | done (a : Nat) (l : List UInt8) (h : skipL false l = l.length) : Lexes a l [] 0 0
  | none (a : Nat) (l : List UInt8) (c : UInt8) (r : List UInt8) (k : Nat) (hk : skipL false l = k) (hd : l.drop k = c :: r) (h : tokLen (c :: r) = 0) : Lexes a l [] (a + k) 2
  | wide (a : Nat) (l : List UInt8) (c : UInt8) (r : List UInt8) (k n : Nat) (hk : skipL false l = k) (hd : l.drop k = c :: r) (hn : tokLen (c :: r) = n) (h0 : n ≠ 0) (hw : wide c ((c :: r).take n) = true) : Lexes a l [] (a + k) 4
  | tok (a : Nat) (l : List UInt8) (c : UInt8) (r : List UInt8) (k n : Nat) (hk : skipL false l = k) (hd : l.drop k = c :: r) (hn : tokLen (c :: r) = n) (h0 : n ≠ 0) (hw : wide c ((c :: r).take n) = false)
      (T : List Tok) (p e : Nat) (h : Lexes (a + k + n) (l.drop (k + n)) T p e) : Lexes a l ({ kind := kindOf c, at_ := a + k, num := numOf c ((c :: r).take n), text := (c :: r).take n } :: T) p e

theorem drop_nil_of_skip {l : List UInt8} (h : l.drop (skipL false l) = []) : skipL false l = l.length := by
  have h1 := skipL_le l false
  have h2 := congrArg List.length h
  rw [List.length_drop] at h2
  simp at h2
  omega
theorem lexes_go : ∀ (f a : Nat) (l : List UInt8), l.length < f → Lexes a l (lexGo f (a + skipL false l) (l.drop (skipL false l))).1 (lexGo f (a + skipL false l) (l.drop (skipL false l))).2.1 (lexGo f (a + skipL false l) (l.drop (skipL false l))).2.2
  | 0, _, _, h => absurd h (Nat.not_lt_zero _)
  | f + 1, a, l, hf => by
    obtain ⟨k, hk⟩ : ∃ k, skipL false l = k := ⟨_, rfl⟩
    rw [hk]
    cases hd : l.drop k with
    | nil => exact .done a l (drop_nil_of_skip (by rw [hk]; exact hd))
    | cons c r =>
      obtain ⟨n, hn⟩ : ∃ n, tokLen (c :: r) = n := ⟨_, rfl⟩
      by_cases h0 : n = 0
      · rw [lexGo_none (by omega)]; exact .none a l c r k hk hd (by omega)
      · cases hw : wide c ((c :: r).take n) with
        | true => rw [lexGo_wide (by omega) (by rw [hn]; exact hw)]; exact .wide a l c r k n hk hd hn h0 hw
        | false =>
          rw [lexGo_go (by omega) (by rw [hn]; exact hw) rfl, hn]
          have e : (c :: r).drop n = l.drop (k + n) := by rw [← hd, List.drop_drop]
          have e2 : ∀ j, (c :: r).drop (n + j) = (l.drop (k + n)).drop j := fun j => by rw [← List.drop_drop, e]
          rw [e2, e]
          refine .tok a l c r k n hk hd hn h0 hw _ _ _ ?_
          refine lexes_go f (a + k + n) (l.drop (k + n)) ?_
          have := congrArg List.length hd
          rw [List.length_drop, List.length_cons] at this
          rw [List.length_drop]
          omega

theorem Lexes.unique {a : Nat} {l : List UInt8} {T T' : List Tok} {p p' e e' : Nat} (h : Lexes a l T p e) (h' : Lexes a l T' p' e') : T = T' ∧ p = p' ∧ e = e' := by
  induction h generalizing T' p' e' with
  | done a l h =>
    have hd : l.drop (skipL false l) = [] := by rw [h]; simp
    cases h' with
    | done => exact ⟨rfl, rfl, rfl⟩
    | none _ _ c r k hk hd' => rw [← hk, hd] at hd'; cases hd'
    | wide _ _ c r k n hk hd' => rw [← hk, hd] at hd'; cases hd'
    | tok _ _ c r k n hk hd' => rw [← hk, hd] at hd'; cases hd'
  | none a l c r k hk hd hn =>
    cases h' with
    | done _ _ h2 => rw [← hk, h2] at hd; simp at hd
    | none _ _ c2 r2 k2 hk2 hd2 h2 => exact ⟨rfl, by omega, rfl⟩
    | wide _ _ c2 r2 k2 n2 hk2 hd2 hn2 h02 =>
      obtain rfl : k = k2 := by omega
      rw [hd] at hd2; rw [← hd2] at hn2; omega
    | tok _ _ c2 r2 k2 n2 hk2 hd2 hn2 h02 =>
      obtain rfl : k = k2 := by omega
      rw [hd] at hd2; rw [← hd2] at hn2; omega
  | wide a l c r k n hk hd hn h0 hw =>
    cases h' with
    | done _ _ h2 => rw [← hk, h2] at hd; simp at hd
    | none _ _ c2 r2 k2 hk2 hd2 h2 =>
      obtain rfl : k = k2 := by omega
      rw [hd] at hd2; rw [← hd2] at h2; omega
    | wide _ _ c2 r2 k2 n2 hk2 hd2 hn2 h02 => exact ⟨rfl, by omega, rfl⟩
    | tok _ _ c2 r2 k2 n2 hk2 hd2 hn2 h02 hw2 =>
      obtain rfl : k = k2 := by omega
      rw [hd] at hd2
      injection hd2 with e1 e2
      subst e1 e2
      obtain rfl : n = n2 := by omega
      rw [hw] at hw2; cases hw2
  | tok a l c r k n hk hd hn h0 hw T p e h ih =>
    cases h' with
    | done _ _ h2 => rw [← hk, h2] at hd; simp at hd
    | none _ _ c2 r2 k2 hk2 hd2 h2 =>
      obtain rfl : k = k2 := by omega
      rw [hd] at hd2; rw [← hd2] at h2; omega
    | wide _ _ c2 r2 k2 n2 hk2 hd2 hn2 h02 hw2 =>
      obtain rfl : k = k2 := by omega
      rw [hd] at hd2
      injection hd2 with e1 e2
      subst e1 e2
      obtain rfl : n = n2 := by omega
      rw [hw] at hw2; cases hw2
    | tok _ _ c2 r2 k2 n2 hk2 hd2 hn2 h02 hw2 T2 p2 e2 h2 =>
      obtain rfl : k = k2 := by omega
      rw [hd] at hd2
      injection hd2 with e1 e2
      subst e1 e2
      obtain rfl : n = n2 := by omega
      obtain ⟨rfl, rfl, rfl⟩ := ih h2
      exact ⟨rfl, rfl, rfl⟩

/-! ### Blanks and comments, in parts -/
theorem skipL_nil (cm : Bool) : skipL cm [] = 0 := rfl
theorem skip_app : ∀ (x z : List UInt8) (cm : Bool), skipL cm x < x.length → skipL cm (x ++ z) = skipL cm x
  | [], _, _, h => absurd h (Nat.not_lt_zero _)
  | c :: r, z, cm, h => by
    by_cases hs : nextC cm c = false ∧ cls c ≠ 0
    · rw [List.cons_append, skipL_stop hs.1 hs.2, skipL_stop hs.1 hs.2]
    · rw [skipL_go hs, List.length_cons] at h
      rw [List.cons_append, skipL_go hs, skipL_go hs, skip_app r z _ (by omega)]
theorem skip_over : ∀ (x z : List UInt8) (cm : Bool), skipL cm x = x.length → skipL cm (x ++ z) = x.length + skipL (x.foldl nextC cm) z
  | [], _, _, _ => by simp
  | c :: r, z, cm, h => by
    by_cases hs : nextC cm c = false ∧ cls c ≠ 0
    · rw [skipL_stop hs.1 hs.2, List.length_cons] at h; omega
    · rw [skipL_go hs, List.length_cons] at h
      rw [List.cons_append, skipL_go hs, skip_over r z _ (by omega), List.length_cons, List.foldl_cons]
      omega
theorem skip_take : ∀ (l : List UInt8) (cm : Bool) (m : Nat), m ≤ skipL cm l → skipL cm (l.take m) = m
  | [], _, m, h => by
    have : m = 0 := Nat.le_zero.1 h
    subst this; rfl
  | c :: r, cm, 0, _ => rfl
  | c :: r, cm, m + 1, h => by
    by_cases hs : nextC cm c = false ∧ cls c ≠ 0
    · rw [skipL_stop hs.1 hs.2] at h; omega
    · rw [skipL_go hs] at h
      rw [List.take_succ_cons, skipL_go hs, skip_take r _ m (by omega)]
      omega
theorem skip_take2 : ∀ (l : List UInt8) (cm : Bool) (m : Nat), skipL cm l < m → skipL cm (l.take m) = skipL cm l
  | [], _, m, _ => by simp
  | c :: r, cm, 0, h => absurd h (Nat.not_lt_zero _)
  | c :: r, cm, m + 1, h => by
    by_cases hs : nextC cm c = false ∧ cls c ≠ 0
    · rw [List.take_succ_cons, skipL_stop hs.1 hs.2, skipL_stop hs.1 hs.2]
    · rw [skipL_go hs] at h
      rw [List.take_succ_cons, skipL_go hs, skipL_go hs, skip_take2 r _ m (by omega)]
/-- What stands where the passing ends: no blank, no '#', and no comment there. -/
theorem skip_head : ∀ (l : List UInt8) (cm : Bool) (c : UInt8) (r : List UInt8), l.drop (skipL cm l) = c :: r → cls c ≠ 0 ∧ cls c ≠ 5 ∧ (l.take (skipL cm l)).foldl nextC cm = false
  | [], _, _, _, h => by simp at h
  | d :: l, cm, c, r, h => by
    by_cases hs : nextC cm d = false ∧ cls d ≠ 0
    · rw [skipL_stop hs.1 hs.2] at h ⊢
      simp only [List.drop_zero, List.cons.injEq] at h
      obtain ⟨rfl, rfl⟩ := h
      have h1 := hs.1
      unfold nextC at h1
      have h10 : d.toNat ≠ 10 := by
        intro h10; have h2 := hs.2; unfold cls clsN at h2; rw [h10] at h2; simp at h2
      rw [if_neg h10] at h1
      have h35 : d.toNat ≠ 35 := by
        intro h35; rw [if_pos h35] at h1; cases h1
      rw [if_neg h35] at h1
      refine ⟨hs.2, ?_, by simpa using h1⟩
      intro h5; unfold cls clsN at h5
      repeat' split at h5
      all_goals first | omega | contradiction
    · rw [skipL_go hs, Nat.add_comm, List.drop_succ_cons] at h
      have ih := skip_head l _ c r h
      rw [skipL_go hs, Nat.add_comm, List.take_succ_cons, List.foldl_cons]
      exact ih
theorem skip_zero {c : UInt8} {r : List UInt8} (h0 : cls c ≠ 0) (h5 : cls c ≠ 5) : skipL false (c :: r) = 0 := by
  refine skip_token c r h0 ?_
  intro h; apply h5; unfold cls clsN; rw [h]; rfl

/-! ### Tokens, in parts -/
theorem tw_app {p : UInt8 → Bool} {b : UInt8} (hb : p b = false) : ∀ (y z : List UInt8), tw p (y ++ b :: z) = tw p y
  | [], z => by rw [List.nil_append, tw_stop hb]; rfl
  | c :: r, z => by
    cases hc : p c with
    | true => rw [List.cons_append, tw_go hc, tw_go hc, tw_app hb r z]
    | false => rw [List.cons_append, tw_stop hc, tw_stop hc]
theorem tw_take (p : UInt8 → Bool) : ∀ (l : List UInt8) (m : Nat), tw p l ≤ m → tw p (l.take m) = tw p l
  | [], m, _ => by simp
  | c :: r, m, h => by
    cases hc : p c with
    | true =>
      rw [tw_go hc] at h
      obtain ⟨m, rfl⟩ : ∃ m', m = m' + 1 := ⟨m - 1, by omega⟩
      rw [List.take_succ_cons, tw_go hc, tw_go hc, tw_take p r m (by omega)]
    | false =>
      rw [tw_stop hc]
      cases m with
      | zero => rfl
      | succ m => rw [List.take_succ_cons, tw_stop hc]
theorem prefix_app {u : List UInt8} {b : UInt8} (hb : b ∉ u) : ∀ (y z : List UInt8), u.isPrefixOf (y ++ b :: z) = u.isPrefixOf y := by
  induction u with
  | nil => intro y z; simp [List.isPrefixOf]
  | cons c u ih =>
    intro y z
    have hc : ¬ b = c := fun h => hb (by rw [h]; exact List.mem_cons_self ..)
    have hu : b ∉ u := fun h => hb (List.mem_cons_of_mem _ h)
    cases y with
    | nil =>
      have hcb : (c == b) = false := by simpa using fun h : c = b => hc h.symm
      simp [List.isPrefixOf, hcb]
    | cons d y => simp only [List.cons_append, List.isPrefixOf, ih hu y z]
theorem symIn_app {b : UInt8} : ∀ (t : List (List UInt8)), (∀ u ∈ t, b ∉ u) → ∀ (y z : List UInt8), symIn t (y ++ b :: z) = symIn t y
  | [], _, _, _ => rfl
  | u :: t, h, y, z => by
    simp only [symIn, prefix_app (h u (List.mem_cons_self ..)), symIn_app t (fun v hv => h v (List.mem_cons_of_mem _ hv)) y z]
theorem symIn_take : ∀ (t : List (List UInt8)) (l : List UInt8) (m : Nat), symIn t l ≤ m → symIn t (l.take m) = symIn t l
  | [], _, _, _ => rfl
  | u :: t, l, m, h => by
    by_cases hp : u.isPrefixOf l = true
    · have hs : symIn (u :: t) l = u.length := by simp only [symIn]; rw [if_pos hp]
      rw [hs] at h ⊢
      have hp' : u.isPrefixOf (l.take m) = true := by
        rw [List.isPrefixOf_iff_prefix] at hp ⊢
        exact List.prefix_take_iff.2 ⟨hp, h⟩
      simp only [symIn]; rw [if_pos hp']
    · have hs : symIn (u :: t) l = symIn t l := by simp only [symIn]; rw [if_neg hp]
      rw [hs] at h ⊢
      have hp' : ¬ u.isPrefixOf (l.take m) = true := by
        intro h2
        rw [List.isPrefixOf_iff_prefix] at h2 hp
        exact hp (h2.trans (List.take_prefix _ _))
      simp only [symIn]; rw [if_neg hp', symIn_take t l m h]
theorem syms_no {b : UInt8} (hb : cls b = 0 ∨ cls b = 5) : ∀ u ∈ syms, b ∉ u := by
  have h : ∀ u ∈ syms, ∀ c ∈ u, cls c ≠ 0 ∧ cls c ≠ 5 := by decide
  intro u hu hbu
  have := h u hu b hbu
  omega
/-- A blank, or a '#', ends each token. -/
theorem tokLen_app {b : UInt8} (hb : cls b = 0 ∨ cls b = 5) (y z : List UInt8) : tokLen (y ++ b :: z) = tokLen y := by
  have hp1 : p1 b = false := by unfold p1; rcases hb with h | h <;> rw [h] <;> rfl
  have hp2 : p2 b = false := by unfold p2; rcases hb with h | h <;> rw [h] <;> rfl
  have hp3 : p3 b = false := by unfold p3; rcases hb with h | h <;> rw [h] <;> rfl
  cases y with
  | nil =>
    show tokLen (b :: z) = 0
    have h0 : symIn syms (b :: z) = 0 := by
      have := symIn_app syms (syms_no hb) [] z
      rw [List.nil_append] at this
      rw [this]; rfl
    simp only [tokLen]
    rcases hb with h | h <;> simp [h, h0]
  | cons c r =>
    have h1 := tw_app hp1 r z
    have h2 := tw_app hp2 r z
    have h3 := tw_app hp3 r z
    have h4 := symIn_app syms (syms_no hb) (c :: r) z
    simp only [List.cons_append] at h4 ⊢
    simp only [tokLen, h1, h2, h3, h4]
theorem tokLen_take (l : List UInt8) (m : Nat) (h : tokLen l ≤ m) : tokLen (l.take m) = tokLen l := by
  cases l with
  | nil => simp
  | cons c r =>
    cases m with
    | zero => rw [List.take_zero]; exact (Nat.le_zero.1 h).symm
    | succ m =>
      have h4 := symIn_take syms (c :: r) (m + 1)
      simp only [List.take_succ_cons] at h4 ⊢
      simp only [tokLen] at h ⊢
      split
      · rename_i hc; rw [if_pos hc] at h; rw [tw_take p1 r m (by omega)]
      · rename_i hc
        rw [if_neg hc] at h
        split
        · rename_i hc; rw [if_pos hc] at h; rw [tw_take p2 r m (by omega)]
        · rename_i hc
          rw [if_neg hc] at h
          split
          · rename_i hc; rw [if_pos hc] at h; rw [tw_take p3 r m (by omega)]
          · rename_i hc
            rw [if_neg hc] at h
            exact h4 h
/-- No blank and no '#' stands in a token. -/
theorem tok_bytes (l : List UInt8) (i : Nat) (hi : i < tokLen l) (b : UInt8) (hb : l[i]? = some b) : cls b ≠ 0 ∧ cls b ≠ 5 := by
  have key : ¬ (cls b = 0 ∨ cls b = 5) := by
    intro h
    obtain ⟨hlt, he⟩ := List.getElem?_eq_some_iff.1 hb
    have hl : l = l.take i ++ b :: l.drop (i + 1) := by
      rw [← he, ← List.drop_eq_getElem_cons hlt, List.take_append_drop]
    have h1 := tokLen_app h (l.take i) (l.drop (i + 1))
    rw [← hl] at h1
    have h2 := tokLen_le (l.take i)
    rw [List.length_take] at h2
    omega
  omega
theorem fold_tok : ∀ l : List UInt8, (∀ b ∈ l, cls b ≠ 5) → l.foldl nextC false = false
  | [], _ => rfl
  | c :: r, h => by
    have hc := h c (List.mem_cons_self ..)
    have hn : nextC false c = false := by
      unfold nextC
      split
      · rfl
      · split
        · rename_i h35; exfalso; apply hc; unfold cls clsN; rw [h35]; rfl
        · rfl
    rw [List.foldl_cons, hn]
    exact fold_tok r (fun b hb => h b (List.mem_cons_of_mem _ hb))
theorem tok_mem (l : List UInt8) (b : UInt8) (h : b ∈ l.take (tokLen l)) : cls b ≠ 0 ∧ cls b ≠ 5 := by
  obtain ⟨i, hi, he⟩ := List.getElem_of_mem h
  rw [List.length_take] at hi
  rw [List.getElem_take] at he
  exact tok_bytes l i (by omega) b (by rw [List.getElem?_eq_getElem (by omega), he])

end Lx
end Go.Proofs.YtgmlghmlmfbfjaaDoor
