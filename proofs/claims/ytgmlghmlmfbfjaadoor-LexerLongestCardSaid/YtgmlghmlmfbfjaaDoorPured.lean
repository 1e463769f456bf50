/- Laws of the relation: texts behind each other, texts cut off, tokens read again, tokens with blanks ahead of them. No program. -/
import Derived.Test.YtgmlghmlmfbfjaaDoorPurec
namespace Go.Proofs.YtgmlghmlmfbfjaaDoor
namespace Lx

theorem Lexes.pre {a : Nat} {x z : List UInt8} {T : List Tok} {p e : Nat} (hs : skipL false x = x.length) (hf : x.foldl nextC false = false) (h : Lexes (a + x.length) z T p e) : Lexes a (x ++ z) T p e := by
  have hsk := skip_over x z false hs
  rw [hf] at hsk
  have hd : ∀ k, (x ++ z).drop (x.length + k) = z.drop k := fun k => by rw [← List.drop_drop, List.drop_left]
  cases h with
  | done _ _ h => exact .done a _ (by rw [hsk, h, List.length_append])
  | none _ _ c r k hk hdk h =>
    rw [Nat.add_assoc]
    exact .none a _ c r _ (by rw [hsk, hk]) (by rw [hd, hdk]) h
  | wide _ _ c r k n hk hdk hn h0 hw =>
    rw [Nat.add_assoc]
    exact .wide a _ c r _ n (by rw [hsk, hk]) (by rw [hd, hdk]) hn h0 hw
  | tok _ _ c r k n hk hdk hn h0 hw T p e h =>
    have e1 : a + x.length + k = a + (x.length + k) := by omega
    rw [e1] at h ⊢
    exact .tok a _ c r _ n (by rw [hsk, hk]) (by rw [hd, hdk]) hn h0 hw T p e (by rw [Nat.add_assoc x.length, hd]; exact h)

/-- A text that ends in a blank, outside of a comment; or nothing. -/
def Closed (x : List UInt8) : Prop := (x = [] ∨ ∃ y b, x = y ++ [b] ∧ cls b = 0) ∧ x.foldl nextC false = false
theorem Closed.nil : Closed [] := ⟨.inl rfl, rfl⟩
theorem Closed.app {x y : List UInt8} (hx : Closed x) (hy : Closed y) : Closed (x ++ y) := by
  obtain ⟨h1, h2⟩ := hx
  obtain ⟨h3, h4⟩ := hy
  refine ⟨?_, by rw [List.foldl_append, h2, h4]⟩
  rcases h3 with rfl | ⟨y', b, rfl, hb⟩
  · rw [List.append_nil]; exact h1
  · exact .inr ⟨x ++ y', b, by rw [List.append_assoc], hb⟩
theorem Lexes.lt {_a : Nat} {l : List UInt8} {c : UInt8} {r : List UInt8} {k n : Nat} (hd : l.drop k = c :: r) (hn : tokLen (c :: r) = n) : k < l.length ∧ k + n ≤ l.length := by
  have h1 := congrArg List.length hd
  have h2 := tokLen_le (c :: r)
  rw [List.length_drop] at h1
  rw [List.length_cons] at h1 h2
  omega
theorem drop_more {l : List UInt8} {c : UInt8} {r : List UInt8} {k : Nat} (hd : l.drop k = c :: r) (n : Nat) : (c :: r).drop n = l.drop (k + n) := by rw [← hd, List.drop_drop]

theorem Lexes.app {a : Nat} {x : List UInt8} {T : List Tok} {p0 e0 : Nat} (h : Lexes a x T p0 e0) (he : e0 = 0) (hc : Closed x) {z : List UInt8} {T2 : List Tok} {p e : Nat} (h2 : Lexes (a + x.length) z T2 p e) : Lexes a (x ++ z) (T ++ T2) p e := by
  induction h with
  | done a x hs => exact Lexes.pre hs hc.2 h2
  | none => cases he
  | wide => cases he
  | tok a x c r k n hk hd hn h0 hw T p0 e0 h ih =>
    obtain ⟨hlt, hle⟩ := Lexes.lt (_a := a) hd hn
    have hhead := skip_head x false c r (by rw [hk]; exact hd)
    rcases hc with ⟨hx | ⟨y, b, hy, hb⟩, hf⟩
    · rw [hx] at hlt; exact absurd hlt (Nat.not_lt_zero _)
    have hky : k ≤ y.length := by rw [hy, List.length_append] at hlt; simp at hlt; omega
    have hcr : c :: r = y.drop k ++ [b] := by rw [← hd, hy, List.drop_append_of_le_length hky]
    have hn1 : tokLen (y.drop k) = n := by rw [← tokLen_app (.inl hb) (y.drop k) [], ← hcr]; exact hn
    have hn2 : tokLen (c :: (r ++ z)) = n := by
      have e1 : c :: (r ++ z) = y.drop k ++ b :: z := by rw [← List.cons_append, hcr, List.append_assoc]; rfl
      rw [e1, tokLen_app (.inl hb), hn1]
    have hle2 : n ≤ (y.drop k).length := by rw [← hn1]; exact tokLen_le _
    have hncr : n ≤ (c :: r).length := by rw [← hn]; exact tokLen_le _
    have htk : (c :: (r ++ z)).take n = (c :: r).take n := by
      rw [← List.cons_append, List.take_append_of_le_length hncr]
    have hdz : (x ++ z).drop (k + n) = x.drop (k + n) ++ z := List.drop_append_of_le_length hle
    have hfk : (x.take (k + n)).foldl nextC false = false := by
      have e1 : x.take (k + n) = x.take k ++ (x.drop k).take n := List.take_add
      have h3 := hhead.2.2
      rw [hk] at h3
      rw [e1, List.foldl_append, h3]
      refine fold_tok _ (fun b' hb' => ?_)
      rw [hd, ← hn] at hb'
      exact (tok_mem _ b' hb').2
    have hclosed : Closed (x.drop (k + n)) := by
      refine ⟨?_, ?_⟩
      · by_cases hkn : k + n ≤ y.length
        · exact .inr ⟨y.drop (k + n), b, by rw [hy, List.drop_append_of_le_length hkn], hb⟩
        · refine .inl (List.drop_eq_nil_of_le ?_)
          rw [hy, List.length_append]; simp; omega
      · have := hf
        rw [← List.take_append_drop (k + n) x, List.foldl_append, hfk] at this
        exact this
    rw [List.cons_append, ← htk]
    refine Lexes.tok a (x ++ z) c (r ++ z) k n (by rw [skip_app x z false (by rw [hk]; exact hlt), hk]) (by rw [List.drop_append_of_le_length (by omega), hd]; rfl) hn2 h0 (by rw [htk]; exact hw) _ _ _ ?_
    rw [hdz]
    refine ih he hclosed ?_
    have e2 : a + k + n + (x.drop (k + n)).length = a + x.length := by rw [List.length_drop]; omega
    rw [e2]; exact h2

/-- What of a token is compared. -/
def core (t : Tok) : Nat × Nat × List UInt8 := (t.kind, t.num, t.text)
theorem Lexes.shift {a : Nat} {l : List UInt8} {T : List Tok} {p e : Nat} (h : Lexes a l T p e) (he : e = 0) (a' : Nat) : ∃ T', Lexes a' l T' 0 0 ∧ T'.map core = T.map core := by
  induction h generalizing a' with
  | done a l hs => exact ⟨[], .done a' l hs, rfl⟩
  | none => cases he
  | wide => cases he
  | tok a l c r k n hk hd hn h0 hw T p e h ih =>
    obtain ⟨T', h', hm⟩ := ih he (a' + k + n)
    exact ⟨_, .tok a' l c r k n hk hd hn h0 hw T' 0 0 h', by rw [List.map_cons, List.map_cons, hm]; rfl⟩
theorem Lexes.zero {a : Nat} {l : List UInt8} {T : List Tok} {p e : Nat} (h : Lexes a l T p e) (he : e = 0) : p = 0 := by
  induction h with
  | done => rfl
  | none => cases he
  | wide => cases he
  | tok _ _ _ _ _ _ _ _ _ _ _ _ _ _ _ ih => exact ih he
theorem Lexes.err {a : Nat} {l : List UInt8} {T : List Tok} {p e : Nat} (h : Lexes a l T p e) : e = 0 ∨ e = 2 ∨ e = 4 := by
  induction h with
  | done => exact .inl rfl
  | none => exact .inr (.inl rfl)
  | wide => exact .inr (.inr rfl)
  | tok _ _ _ _ _ _ _ _ _ _ _ _ _ _ _ ih => exact ih

/-- A token that stands for itself. -/
def Good (t : Tok) : Prop := ∃ c r, t.text = c :: r ∧ tokLen t.text = t.text.length ∧ wide c t.text = false ∧ t.kind = kindOf c ∧ t.num = numOf c t.text ∧ cls c ≠ 0 ∧ cls c ≠ 5
theorem take_cons {c : UInt8} {r : List UInt8} {n : Nat} (h0 : n ≠ 0) : (c :: r).take n = c :: r.take (n - 1) := by
  obtain ⟨m, rfl⟩ : ∃ m, n = m + 1 := ⟨n - 1, by omega⟩
  rw [List.take_succ_cons, Nat.add_sub_cancel]
theorem good_of {l : List UInt8} {c : UInt8} {r : List UInt8} {k n : Nat} (a : Nat) (hk : skipL false l = k) (hd : l.drop k = c :: r) (hn : tokLen (c :: r) = n) (h0 : n ≠ 0) (hw : wide c ((c :: r).take n) = false) :
    Good { kind := kindOf c, at_ := a, num := numOf c ((c :: r).take n), text := (c :: r).take n } := by
  have hhead := skip_head l false c r (by rw [hk]; exact hd)
  have hle : n ≤ (c :: r).length := by rw [← hn]; exact tokLen_le _
  refine ⟨c, r.take (n - 1), take_cons h0, ?_, hw, rfl, rfl, hhead.1, hhead.2.1⟩
  rw [tokLen_take _ _ (by omega), hn, List.length_take]
  omega
theorem Lexes.good {a : Nat} {l : List UInt8} {T : List Tok} {p e : Nat} (h : Lexes a l T p e) : ∀ t ∈ T, Good t := by
  induction h with
  | done => intro t ht; cases ht
  | none => intro t ht; cases ht
  | wide => intro t ht; cases ht
  | tok a l c r k n hk hd hn h0 hw T p e h ih =>
    intro t ht
    rcases List.mem_cons.1 ht with rfl | ht
    · exact good_of (a + k) hk hd hn h0 hw
    · exact ih t ht
theorem Good.pos {t : Tok} (h : Good t) : 0 < t.text.length := by
  obtain ⟨c, r, e, _⟩ := h
  rw [e]; exact Nat.succ_pos _

/-- The tokens, each with a text of f ahead of it. -/
def spaced (f : Nat → List UInt8) : Nat → List Tok → List UInt8
  | _, [] => []
  | i, t :: T => f i ++ t.text ++ spaced f (i + 1) T
/-- A text of blanks or comments that is over at its end. -/
def Gap (x : List UInt8) : Prop := skipL false x = x.length ∧ x.foldl nextC false = false ∧ ∃ b z, x = b :: z ∧ (cls b = 0 ∨ cls b = 5)
theorem spaced_lex (f : Nat → List UInt8) (hf : ∀ i, Gap (f i)) : ∀ (T : List Tok), (∀ t ∈ T, Good t) → ∀ i a, ∃ T', Lexes a (spaced f i T) T' 0 0 ∧ T'.map core = T.map core
  | [], _, i, a => ⟨[], .done a _ rfl, rfl⟩
  | t :: T, hg, i, a => by
    obtain ⟨c, r, htx, hn, hw, hk, hnum, hc0, hc5⟩ := hg t (List.mem_cons_self ..)
    obtain ⟨g1, g2, b, z, hb, hbc⟩ := hf i
    obtain ⟨T', h', hm⟩ := spaced_lex f hf T (fun t ht => hg t (List.mem_cons_of_mem _ ht)) (i + 1) (a + (f i).length + t.text.length)
    have hlen : ∀ rest, (rest = [] ∨ ∃ b z, rest = b :: z ∧ (cls b = 0 ∨ cls b = 5)) → tokLen (t.text ++ rest) = t.text.length := by
      intro rest h
      rcases h with rfl | ⟨b', z', rfl, hb'⟩
      · rw [List.append_nil, hn]
      · rw [tokLen_app hb', hn]
    have hrest : spaced f (i + 1) T = [] ∨ ∃ b z, spaced f (i + 1) T = b :: z ∧ (cls b = 0 ∨ cls b = 5) := by
      cases T with
      | nil => exact .inl rfl
      | cons t2 T2 =>
        obtain ⟨_, _, b2, z2, hb2, hc2⟩ := hf (i + 1)
        refine .inr ⟨b2, z2 ++ t2.text ++ spaced f (i + 1 + 1) T2, ?_, hc2⟩
        show f (i + 1) ++ t2.text ++ _ = _
        rw [hb2]; simp
    have hl := hlen _ hrest
    have hrt : (f i ++ t.text ++ spaced f (i + 1) T) = f i ++ (c :: (r ++ spaced f (i + 1) T)) := by rw [List.append_assoc, htx]; rfl
    have hcr : c :: (r ++ spaced f (i + 1) T) = t.text ++ spaced f (i + 1) T := by rw [htx]; rfl
    have htk : (c :: (r ++ spaced f (i + 1) T)).take t.text.length = t.text := by rw [hcr, List.take_left]
    have hpos : t.text.length ≠ 0 := by rw [htx]; simp
    have hlx : Lexes a (f i ++ (c :: (r ++ spaced f (i + 1) T))) ({ kind := kindOf c, at_ := a + (f i).length + 0, num := numOf c ((c :: (r ++ spaced f (i + 1) T)).take t.text.length), text := (c :: (r ++ spaced f (i + 1) T)).take t.text.length } :: T') 0 0 := by
      refine Lexes.pre g1 g2 (Lexes.tok _ _ c _ 0 t.text.length (skip_zero hc0 hc5) rfl (by rw [hcr]; exact hl) hpos (by rw [htk]; exact hw) T' 0 0 ?_)
      rw [Nat.add_zero, Nat.zero_add, hcr, List.drop_left]
      exact h'
    refine ⟨_, by unfold spaced; rw [hrt]; exact hlx, ?_⟩
    rw [List.map_cons, List.map_cons, hm, htk]
    show (kindOf c, numOf c t.text, t.text) :: _ = (t.kind, t.num, t.text) :: _
    rw [hk, hnum]

/-- An error's place: the text ahead of it has none; the text up to a blank behind it has the same. -/
theorem Lexes.cut {a : Nat} {l : List UInt8} {T : List Tok} {p e : Nat} (h : Lexes a l T p e) (he : e ≠ 0) :
    ∃ q b, p = a + q ∧ l[q]? = some b ∧ cls b ≠ 0 ∧ Lexes a (l.take q) T 0 0 ∧ (∀ y b' z, l = y ++ b' :: z → cls b' = 0 → q ≤ y.length → Lexes a y T p e) := by
  induction h with
  | done => exact absurd rfl he
  | none a l c r k hk hd hn =>
    obtain ⟨hlt, _⟩ := Lexes.lt (_a := a) hd hn
    have hhead := skip_head l false c r (by rw [hk]; exact hd)
    have hq : l[k]? = some c := by rw [← Nat.add_zero k, ← List.getElem?_drop, hd]; rfl
    refine ⟨k, c, rfl, hq, hhead.1, .done a _ (by rw [skip_take l false k (by omega), List.length_take]; omega), ?_⟩
    intro y b' z hy hb' hle
    have hky : k < y.length := by
      rcases Nat.lt_or_ge k y.length with h | h
      · exact h
      · have : k = y.length := by omega
        rw [hy, this, List.getElem?_append_right (Nat.le_refl _), Nat.sub_self] at hq
        have hbc : b' = c := by simpa using hq
        rw [hbc] at hb'; exact absurd hb' hhead.1
    have hdy : l.drop k = y.drop k ++ b' :: z := by rw [hy, List.drop_append_of_le_length (by omega)]
    have hcy : y.drop k = c :: (y.drop k).tail := by
      cases hyd : y.drop k with
      | nil => have := congrArg List.length hyd; rw [List.length_drop] at this; simp at this; omega
      | cons d q => rw [hyd, hd] at hdy; rw [List.cons_append] at hdy; injection hdy with h1 h2; rw [h1]; rfl
    refine .none a y c _ k ?_ hcy ?_
    · have h1 : y = l.take y.length := by rw [hy, List.take_left]
      rw [h1, skip_take2 l false _ (by omega), hk]
    · rw [← hcy, ← tokLen_app (.inl hb') (y.drop k) z, ← hdy, hd]; exact hn
  | wide a l c r k n hk hd hn h0 hw =>
    obtain ⟨hlt, _⟩ := Lexes.lt (_a := a) hd hn
    have hhead := skip_head l false c r (by rw [hk]; exact hd)
    have hq : l[k]? = some c := by rw [← Nat.add_zero k, ← List.getElem?_drop, hd]; rfl
    refine ⟨k, c, rfl, hq, hhead.1, .done a _ (by rw [skip_take l false k (by omega), List.length_take]; omega), ?_⟩
    intro y b' z hy hb' hle
    have hky : k < y.length := by
      rcases Nat.lt_or_ge k y.length with h | h
      · exact h
      · have : k = y.length := by omega
        rw [hy, this, List.getElem?_append_right (Nat.le_refl _), Nat.sub_self] at hq
        have hbc : b' = c := by simpa using hq
        rw [hbc] at hb'; exact absurd hb' hhead.1
    have hdy : l.drop k = y.drop k ++ b' :: z := by rw [hy, List.drop_append_of_le_length (by omega)]
    have hcy : y.drop k = c :: (y.drop k).tail := by
      cases hyd : y.drop k with
      | nil => have := congrArg List.length hyd; rw [List.length_drop] at this; simp at this; omega
      | cons d q => rw [hyd, hd] at hdy; rw [List.cons_append] at hdy; injection hdy with h1 h2; rw [h1]; rfl
    have hny : tokLen (y.drop k) = n := by rw [← tokLen_app (.inl hb') (y.drop k) z, ← hdy, hd]; exact hn
    have hnl : n ≤ (y.drop k).length := by rw [← hny]; exact tokLen_le _
    refine .wide a y c _ k n ?_ hcy (by rw [← hcy]; exact hny) h0 ?_
    · have h1 : y = l.take y.length := by rw [hy, List.take_left]
      rw [h1, skip_take2 l false _ (by omega), hk]
    · rw [← hcy]
      have e1 : (c :: r).take n = (y.drop k).take n := by rw [← hd, hdy, List.take_append_of_le_length hnl]
      rw [← e1]; exact hw
  | tok a l c r k n hk hd hn h0 hw T p e h ih =>
    obtain ⟨q, b, hp, hq, hcb, h1, h2⟩ := ih he
    obtain ⟨hlt, hle⟩ := Lexes.lt (_a := a) hd hn
    have hncr : n ≤ (c :: r).length := by rw [← hn]; exact tokLen_le _
    refine ⟨k + n + q, b, by omega, by rw [← List.getElem?_drop]; exact hq, hcb, ?_, ?_⟩
    · have hdt : (l.take (k + n + q)).drop k = (c :: r).take (n + q) := by
        rw [List.drop_take, hd]; congr 1; omega
      have hcs : (c :: r).take (n + q) = c :: r.take (n + q - 1) := take_cons (by omega)
      have htt : ((c :: r).take (n + q)).take n = (c :: r).take n := by rw [List.take_take, Nat.min_eq_left (by omega)]
      have := Lexes.tok a (l.take (k + n + q)) c (r.take (n + q - 1)) k n (by rw [skip_take2 l false _ (by omega), hk]) (by rw [hdt, hcs]) (by rw [← hcs, tokLen_take _ _ (by omega), hn]) h0 (by rw [← hcs, htt]; exact hw) T 0 0
        (by rw [List.drop_take]; have e1 : k + n + q - (k + n) = q := by omega
            rw [e1]; exact h1)
      rw [← hcs, htt] at this
      exact this
    · intro y b' z hy hb' hle2
      have hky : k + n ≤ y.length := by omega
      have hdy : l.drop k = y.drop k ++ b' :: z := by rw [hy, List.drop_append_of_le_length (by omega)]
      have hcy : y.drop k = c :: (y.drop k).tail := by
        cases hyd : y.drop k with
        | nil => have := congrArg List.length hyd; rw [List.length_drop] at this; simp at this; omega
        | cons d q => rw [hyd, hd] at hdy; rw [List.cons_append] at hdy; injection hdy with h1 h2; rw [h1]; rfl
      have hny : tokLen (y.drop k) = n := by rw [← tokLen_app (.inl hb') (y.drop k) z, ← hdy, hd]; exact hn
      have hnl : n ≤ (y.drop k).length := by rw [← hny]; exact tokLen_le _
      have e1 : (c :: r).take n = (y.drop k).take n := by rw [← hd, hdy, List.take_append_of_le_length hnl]
      rw [e1, hcy]
      refine .tok a y c _ k n ?_ hcy (by rw [← hcy]; exact hny) h0 (by rw [← hcy, ← e1]; exact hw) T p e ?_
      · have h1 : y = l.take y.length := by rw [hy, List.take_left]
        rw [h1, skip_take2 l false _ (by omega), hk]
      · exact h2 (y.drop (k + n)) b' z (by rw [hy, List.drop_append_of_le_length hky]) hb' (by rw [List.length_drop]; omega)

/-- Where the tokens lie. -/
theorem Lexes.places {a : Nat} {l : List UInt8} {T : List Tok} {p e : Nat} (h : Lexes a l T p e) : ∀ t ∈ T, t.at_ + t.text.length ≤ a + l.length := by
  induction h with
  | done => intro t ht; cases ht
  | none => intro t ht; cases ht
  | wide => intro t ht; cases ht
  | tok a l c r k n hk hd hn h0 hw T p e h ih =>
    obtain ⟨hlt, hle⟩ := Lexes.lt (_a := a) hd hn
    intro t ht
    rcases List.mem_cons.1 ht with rfl | ht
    · simp only [List.length_take]; omega
    · have := ih t ht; rw [List.length_drop] at this; omega
theorem Lexes.len {a : Nat} {l : List UInt8} {T : List Tok} {p e : Nat} (h : Lexes a l T p e) : T.length ≤ l.length := by
  induction h with
  | done => exact Nat.zero_le _
  | none => exact Nat.zero_le _
  | wide => exact Nat.zero_le _
  | tok a l c r k n hk hd hn h0 hw T p e h ih =>
    obtain ⟨hlt, hle⟩ := Lexes.lt (_a := a) hd hn
    rw [List.length_drop] at ih
    rw [List.length_cons]; omega
/-- The first token of a text, and what stands ahead of it and behind it. -/
theorem Lexes.next {a : Nat} {l : List UInt8} {t : Tok} {T : List Tok} {p e : Nat} (h : Lexes a l (t :: T) p e) :
    ∃ k, t.at_ = a + k ∧ k + t.text.length ≤ l.length ∧ (∀ a', Lexes a' (l.take k) [] 0 0) ∧ t.text = (l.drop k).take t.text.length ∧ Lexes (a + k + t.text.length) (l.drop (k + t.text.length)) T p e := by
  cases h with
  | tok _ _ c r k n hk hd hn h0 hw T p e h =>
    obtain ⟨hlt, hle⟩ := Lexes.lt (_a := a) hd hn
    have hncr : n ≤ (c :: r).length := by rw [← hn]; exact tokLen_le _
    have hl : ((c :: r).take n).length = n := by rw [List.length_take]; omega
    simp only [hl]
    exact ⟨k, rfl, hle, fun a' => .done a' _ (by rw [skip_take l false k (by omega), List.length_take]; omega), by rw [hd], h⟩
theorem Lexes.last {a : Nat} {l : List UInt8} {p : Nat} (h : Lexes a l [] p 0) (a' : Nat) : Lexes a' l [] 0 0 := by
  cases h with
  | done _ _ hs => exact .done a' l hs

/-- Two neighbours with nothing between them, read again. -/
theorem Lexes.pair {a : Nat} {l : List UInt8} {T : List Tok} {p e : Nat} (h : Lexes a l T p e) : ∀ i (h1 : i + 1 < T.length), (T[i]).at_ + (T[i]).text.length = (T[i + 1]).at_ →
    ∃ t1 t2, Lexes 0 ((T[i]).text ++ (T[i + 1]).text) [t1, t2] 0 0 ∧ t1.text = (T[i]).text ∧ t2.text = (T[i + 1]).text := by
  induction h with
  | done => intro i h1; exact absurd h1 (Nat.not_lt_zero _)
  | none => intro i h1; exact absurd h1 (Nat.not_lt_zero _)
  | wide => intro i h1; exact absurd h1 (Nat.not_lt_zero _)
  | tok a l c r k n hk hd hn h0 hw T p e h ih =>
    intro i h1
    cases i with
    | succ i => exact fun hadj => ih i (by simpa using h1) hadj
    | zero =>
      cases T with
      | nil => simp at h1
      | cons t T =>
        simp only [List.getElem_cons_zero, List.getElem_cons_succ, Nat.zero_add]
        intro hadj
        have hncr : n ≤ (c :: r).length := by rw [← hn]; exact tokLen_le _
        have hl : ((c :: r).take n).length = n := by rw [List.length_take]; omega
        rw [hl] at hadj
        have hg := h.good t (List.mem_cons_self ..)
        cases h with
        | tok _ _ c2 r2 k2 n2 hk2 hd2 hn2 h02 hw2 T p e h =>
          simp only at hadj ⊢
          obtain rfl : k2 = 0 := by omega
          rw [List.drop_zero] at hd2
          have hhead := skip_head l false c r (by rw [hk]; exact hd)
          have hhead2 := skip_head (l.drop (k + n)) false c2 r2 (by rw [hk2, List.drop_zero]; exact hd2)
          have hcr2 : (c :: r).drop n = c2 :: r2 := by rw [drop_more hd, hd2]
          have hn2cr : n2 ≤ (c2 :: r2).length := by rw [← hn2]; exact tokLen_le _
          have hjoin : (c :: r).take n ++ (c2 :: r2).take n2 = (c :: r).take (n + n2) := by rw [List.take_add, hcr2]
          have hcs : (c :: r).take (n + n2) = c :: r.take (n + n2 - 1) := take_cons (by omega)
          have htt : ((c :: r).take (n + n2)).take n = (c :: r).take n := by rw [List.take_take, Nat.min_eq_left (by omega)]
          have hdd : ((c :: r).take (n + n2)).drop n = (c2 :: r2).take n2 := by rw [List.drop_take, hcr2]; congr 1; omega
          have hcs2 : (c2 :: r2).take n2 = c2 :: r2.take (n2 - 1) := take_cons h02
          have ht2 : ((c2 :: r2).take n2).take n2 = (c2 :: r2).take n2 := by rw [List.take_take, Nat.min_self]
          rw [hjoin, hcs]
          refine ⟨_, _, Lexes.tok 0 _ c _ 0 n (skip_zero hhead.1 hhead.2.1) rfl (by rw [← hcs, tokLen_take _ _ (by omega), hn]) h0 (by rw [← hcs, htt]; exact hw) _ _ _
            (Lexes.tok _ _ c2 (r2.take (n2 - 1)) 0 n2 (by rw [Nat.zero_add, ← hcs, hdd, hcs2]; exact skip_zero hhead2.1 hhead2.2.1) (by rw [List.drop_zero, Nat.zero_add, ← hcs, hdd, hcs2]) (by rw [← hcs2, tokLen_take _ _ (by omega), hn2]) h02 (by rw [← hcs2, ht2]; exact hw2) _ _ _
              (Lexes.done _ _ ?_)), ?_, ?_⟩
          · rw [Nat.zero_add, ← hcs, Nat.zero_add, hdd]
            have : ((c2 :: r2).take n2).drop n2 = [] := List.drop_eq_nil_of_le (by rw [List.length_take]; omega)
            rw [this]; rfl
          · simp only [← hcs, htt]
          · simp only [← hcs2, ht2]

/-- How long all tokens are together. -/
def total : List Tok → Nat
  | [] => 0
  | t :: T => t.text.length + total T
theorem Lexes.total_le {a : Nat} {l : List UInt8} {T : List Tok} {p e : Nat} (h : Lexes a l T p e) : total T ≤ l.length := by
  induction h with
  | done => exact Nat.zero_le _
  | none => exact Nat.zero_le _
  | wide => exact Nat.zero_le _
  | tok a l c r k n hk hd hn h0 hw T p e h ih =>
    obtain ⟨hlt, hle⟩ := Lexes.lt (_a := a) hd hn
    rw [List.length_drop] at ih
    simp only [total, List.length_take]; omega
theorem spaced_len (f : Nat → List UInt8) (m : Nat) (hf : ∀ i, (f i).length ≤ m) : ∀ (T : List Tok) (i : Nat), (spaced f i T).length ≤ m * T.length + total T
  | [], _ => Nat.zero_le _
  | t :: T, i => by
    have h1 := hf i
    have h2 := spaced_len f m hf T (i + 1)
    simp only [spaced, total, List.length_append, List.length_cons, Nat.mul_succ]
    omega
/-- Two texts with a line feed between them. -/
theorem joined {x y : List UInt8} {T1 T2 : List Tok} (h1 : Lexes 0 x T1 0 0) (hc : Closed x) (h2 : Lexes 0 y T2 0 0) : ∃ T3, Lexes 0 (x ++ [10] ++ y) T3 0 0 ∧ T3.map core = (T1 ++ T2).map core := by
  obtain ⟨T2', h3, hm⟩ := h2.shift rfl (0 + x.length + 1)
  have h4 : Lexes (0 + x.length) ([10] ++ y) T2' 0 0 := Lexes.pre (x := [10]) rfl rfl h3
  refine ⟨_, by rw [List.append_assoc]; exact h1.app rfl hc h4, by rw [List.map_append, List.map_append, hm]⟩

end Lx
end Go.Proofs.YtgmlghmlmfbfjaaDoor
