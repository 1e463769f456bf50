/- The iterator of lexer.parts. -/
import Derived.Test.YtgmlghmlmfbfjaaDoorIc
import Derived.Test.YtgmlghmlmfbfjaaDoorVb
import Derived.Test.YtgmlghmlmfbfjaaDoorRf
import Derived.RangeFuncBox
import Derived.RangeFuncLeaves
import Derived.RangeFuncCalls
import Derived.Shelf.Abstract
import Derived.Shelf.RegionOpen
import Derived.OwnWalkIn
import Derived.TacticsInMore
import Derived.LoopNIn
import Derived.LoopIn
namespace Go.Proofs.YtgmlghmlmfbfjaaDoor
open Go Go.RowKit Go.Shelf
attribute [local go_sem] Oper.semAt_some

/-- What parts hands to a round: where, which kind, which text (empty: no token). -/
structure RTok where
  kind : Nat
  at_ : Nat
  text : List UInt8
/-- The token that Tokens makes of it. -/
def RTok.tok (x : RTok) : Lx.Tok := { kind := x.kind, at_ := x.at_, num := if x.kind = 2 then Lx.dec x.text else 0, text := x.text }
/-- What is known of it. -/
def RTok.Good (x : RTok) : Prop := x.kind ≤ 3 ∧ x.at_ ≤ 8192 ∧ x.text.length ≤ 8192 ∧ (x.kind = 2 → x.text ≠ [] ∧ ∀ c ∈ x.text, Lx.digit c)
/-- It fits. -/
def RTok.Fits (x : RTok) : Prop := x.text ≠ [] ∧ (x.kind ≤ 1 → x.text.length ≤ 16) ∧ (x.kind = 2 → Lx.dec x.text ≤ 1099511627776)
structure GTok where
  val : RTok
  good : val.Good
def GTok.encs (x : GTok) : Array Value := #[.int .i64 (x.val.at_ : Int), tokAgg x.val.kind x.val.at_ 0 ⟨x.val.text.toArray⟩]

/-- Where the iterator stands: at a, blanks and comments still to pass; pre: what has come, all of it good. -/
def PartAt (s : ByteArray) (f a : Nat) (pre : List GTok) (T : List Lx.Tok) (A E : Nat) : Prop :=
  s.size < a + f ∧ ((pre.map (·.val.tok)) ++ (Lx.lexGo f a (s.data.toList.drop a)).1, (Lx.lexGo f a (s.data.toList.drop a)).2) = (T, A, E)
def PartRel (s : ByteArray) (f a : Nat) (pre : List GTok) (T : List Lx.Tok) (A E : Nat) : Prop := PartAt s f (a + Lx.skipL false (s.data.toList.drop a)) pre T A E
theorem partRel_start {s : ByteArray} {k0 : Nat} {T : List Lx.Tok} {A E : Nat} (hk0 : Lx.skipL false s.data.toList = k0) (hT : Lx.lexGo (s.data.toList.length + 1) k0 (s.data.toList.drop k0) = (T, A, E)) :
    PartRel s (s.data.toList.length + 1) 0 [] T A E := by
  unfold PartRel
  rw [List.drop_zero, hk0, Nat.zero_add]
  unfold PartAt
  rw [hT]
  exact ⟨by simp; omega, rfl⟩
theorem partRel_skip {s : ByteArray} {f a m : Nat} {pre : List GTok} {T : List Lx.Tok} {A E : Nat} (h : PartRel s f a pre T A E) (hm : Lx.skipL false (s.data.toList.drop a) = m + Lx.skipL false (s.data.toList.drop (a + m))) : PartRel s f (a + m) pre T A E := by
  unfold PartRel at h ⊢
  rw [hm, ← Nat.add_assoc] at h
  exact h
theorem partRel_end {s : ByteArray} {f a : Nat} {pre : List GTok} {T : List Lx.Tok} {A E : Nat} (h : PartRel s f a pre T A E) (ha : a ≤ s.size) (hge : s.size ≤ a) : pre.map (·.val.tok) = T ∧ A = 0 ∧ E = 0 := by
  unfold PartRel at h
  rw [drop_end s a hge] at h
  simp only [Lx.skipL, Nat.add_zero] at h
  obtain ⟨h1, h2⟩ := h
  obtain ⟨f, rfl⟩ : ∃ g, f = g + 1 := ⟨f - 1, by omega⟩
  exact rel_end ⟨h1, h2⟩ hge
/-- A token was handed over, and the round goes on. -/
theorem partRel_tok {s : ByteArray} {f a n : Nat} {pre : List GTok} {x : GTok} {T : List Lx.Tok} {A E : Nat} (h : PartRel s f a pre T A E) (hlt : a < s.size) (h0 : Lx.cls s[a] ≠ 0) (hc : s[a].toNat ≠ 35)
    (hn : Lx.tokLen (s.data.toList.drop a) = n) (hx : x.val = { kind := if n = 0 then 0 else Lx.kindOf s[a], at_ := a, text := (s.data.toList.drop a).take n }) (hf : x.val.Fits) : 1 ≤ n ∧ ∃ g, PartRel s g (a + n) (pre ++ [x]) T A E := by
  unfold PartRel at h
  have hsk : Lx.skipL false (s.data.toList.drop a) = 0 := by rw [drop_cons s a hlt]; exact Lx.skip_token _ _ h0 hc
  rw [hsk, Nat.add_zero] at h
  have hnp : 1 ≤ n := by
    have := hf.1
    rw [hx] at this
    rcases Nat.eq_zero_or_pos n with h | h
    · subst h; simp at this
    · exact h
  obtain ⟨f, rfl⟩ : ∃ g, f = g + 1 := ⟨f - 1, by have := h.1; omega⟩
  rw [if_neg (by omega)] at hx
  have hlen : ((s.data.toList.drop a).take n).length = n := by
    have := Lx.tokLen_le (s.data.toList.drop a)
    rw [List.length_take, Nat.min_eq_left (by omega)]
  have hw : Lx.wide s[a] ((s.data.toList.drop a).take n) = false := by
    obtain ⟨f1, f2, f3⟩ := hf
    rw [hx] at f2 f3
    simp only [Lx.kindOf] at f2 f3
    unfold Lx.wide
    by_cases c1 : Lx.cls s[a] = 1
    · rw [if_pos (.inl c1)]; rw [if_pos c1] at f2; exact decide_eq_false (by have := f2 (by omega); omega)
    · by_cases c2 : Lx.cls s[a] = 2
      · rw [if_pos (.inr c2)]; rw [if_neg c1, if_pos c2] at f2; exact decide_eq_false (by have := f2 (by omega); omega)
      · rw [if_neg (by omega)]
        by_cases c3 : Lx.cls s[a] = 3
        · rw [if_pos c3]; rw [if_neg c1, if_neg c2, if_pos c3] at f3; exact decide_eq_false (by have := f3 rfl; omega)
        · rw [if_neg c3]
  refine ⟨hnp, f, ?_⟩
  unfold PartRel
  have := rel_step h hlt hn hnp hw rfl
  have htok : x.val.tok = { kind := Lx.kindOf s[a], at_ := a, num := Lx.numOf s[a] ((s.data.toList.drop a).take n), text := (s.data.toList.drop a).take n } := by
    rw [hx]
    unfold RTok.tok Lx.numOf Lx.kindOf
    simp only
    congr 1
    by_cases c3 : Lx.cls s[a] = 3
    · rw [if_pos c3, c3]; rfl
    · rw [if_neg c3, if_neg]
      repeat' split
      all_goals omega
  unfold PartAt
  rw [List.map_append, List.map_cons, List.map_nil, htok]
  exact this
/-- Where a round has said 'no more'. -/
def StopAt (pre : List GTok) (A E : Nat) : Prop :=
  ∃ (init : List GTok) (x : GTok), pre = init ++ [x] ∧ (x.val.text = [] → A = x.val.at_ ∧ E = 2) ∧ (x.val.text ≠ [] → ¬ x.val.Fits → A = x.val.at_ ∧ E = 4)
theorem partRel_stop {s : ByteArray} {f a n : Nat} {pre : List GTok} {x : GTok} {T : List Lx.Tok} {A E : Nat} (h : PartRel s f a pre T A E) (hlt : a < s.size) (h0 : Lx.cls s[a] ≠ 0) (hc : s[a].toNat ≠ 35)
    (hn : Lx.tokLen (s.data.toList.drop a) = n) (hx : x.val = { kind := if n = 0 then 0 else Lx.kindOf s[a], at_ := a, text := (s.data.toList.drop a).take n }) : StopAt (pre ++ [x]) A E := by
  unfold PartRel at h
  have hsk : Lx.skipL false (s.data.toList.drop a) = 0 := by rw [drop_cons s a hlt]; exact Lx.skip_token _ _ h0 hc
  rw [hsk, Nat.add_zero] at h
  obtain ⟨f, rfl⟩ : ∃ g, f = g + 1 := ⟨f - 1, by have := h.1; omega⟩
  have hlen : ((s.data.toList.drop a).take n).length = n := by
    have := Lx.tokLen_le (s.data.toList.drop a)
    rw [List.length_take, Nat.min_eq_left (by omega)]
  refine ⟨pre, x, rfl, fun ht => ?_, fun ht hf => ?_⟩
  · rw [hx] at ht ⊢
    simp only at ht ⊢
    rw [ht] at hlen
    obtain rfl : n = 0 := by simpa using hlen.symm
    exact rel_none h hlt hn
  · have ht' := ht
    rw [hx] at ht'
    have ht2 : (s.data.toList.drop a).take n ≠ [] := ht'
    have hnp : 1 ≤ n := by
      rcases Nat.eq_zero_or_pos n with h | h
      · subst h; simp at ht2
      · exact h
    have key : Lx.wide s[a] ((s.data.toList.drop a).take n) = true := by
      rw [← Bool.not_eq_false]
      intro hw
      refine hf ?_
      rw [hx, if_neg (by omega)]
      refine ⟨ht2, fun hk0 => ?_, fun hk0 => ?_⟩
      · have hk : Lx.kindOf s[a] ≤ 1 := hk0
        show ((s.data.toList.drop a).take n).length ≤ 16
        unfold Lx.kindOf at hk
        unfold Lx.wide at hw
        by_cases c1 : Lx.cls s[a] = 1
        · rw [if_pos (.inl c1)] at hw; have := of_decide_eq_false hw; omega
        · by_cases c2 : Lx.cls s[a] = 2
          · rw [if_pos (.inr c2)] at hw; have := of_decide_eq_false hw; omega
          · rw [if_neg c1, if_neg c2] at hk; split at hk <;> omega
      · have hk : Lx.kindOf s[a] = 2 := hk0
        show Lx.dec ((s.data.toList.drop a).take n) ≤ 1099511627776
        unfold Lx.kindOf at hk
        have c3 : Lx.cls s[a] = 3 := by
          split at hk
          · omega
          · split at hk
            · omega
            · split at hk
              · assumption
              · omega
        unfold Lx.wide at hw
        rw [if_neg (by omega), if_pos c3] at hw
        have := of_decide_eq_false hw; omega
    have := rel_wide h hlt hn hnp key
    rw [hx]
    exact this
/-- The token at a, as it is handed over. -/
def rawTok (s : ByteArray) (a n : Nat) (h : a < s.size) : RTok := { kind := if n = 0 then 0 else Lx.kindOf s[a], at_ := a, text := (s.data.toList.drop a).take n }
theorem rawTok_good {s : ByteArray} {a n : Nat} (h : a < s.size) (hs : s.size ≤ 8192) (hn : Lx.tokLen (s.data.toList.drop a) = n) : (rawTok s a n h).Good := by
  have hl := Lx.tokLen_le (s.data.toList.drop a)
  have hdl : (s.data.toList.drop a).length = s.size - a := by simp
  refine ⟨?_, by show a ≤ 8192; omega, ?_, fun hk => ?_⟩
  · show (if n = 0 then 0 else Lx.kindOf s[a]) ≤ 3
    unfold Lx.kindOf
    repeat' split
    all_goals omega
  · show ((s.data.toList.drop a).take n).length ≤ 8192
    rw [List.length_take]; omega
  · have hk' : (if n = 0 then 0 else Lx.kindOf s[a]) = 2 := hk
    have hn0 : n ≠ 0 := by intro h; rw [if_pos h] at hk'; omega
    rw [if_neg hn0] at hk'
    have c3 : Lx.cls s[a] = 3 := by
      unfold Lx.kindOf at hk'
      split at hk'
      · omega
      · split at hk'
        · omega
        · split at hk'
          · assumption
          · omega
    refine ⟨?_, digits_tok h hn c3⟩
    show (s.data.toList.drop a).take n ≠ []
    intro he
    have : ((s.data.toList.drop a).take n).length = 0 := by rw [he]; rfl
    rw [List.length_take] at this
    omega
theorem rest_list (s : ByteArray) (a : Nat) : (s.extract a s.size).data.toList = s.data.toList.drop a := Lib.extract_to_end s a
theorem rest_size (s : ByteArray) (a : Nat) (h : a ≤ s.size) : (s.extract a s.size).size = s.size - a := by rw [ByteArray.size_extract]; omega
theorem rest_head (s : ByteArray) (a : Nat) (h : a < s.size) (h' : 0 < (s.extract a s.size).size) : (s.extract a s.size)[0] = s[a] := by
  have h1 := drop_cons (s.extract a s.size) 0 h'
  rw [List.drop_zero, rest_list, drop_cons s a h] at h1
  injection h1 with h1 _
  exact h1.symm
theorem abide_below {B : Nat} {J : List GTok → World → Prop} (hJ : AbidesFrom B J) {pre : List GTok} {w w' : World} (h : J pre w) (hb : Below w.heap.size w w') : J pre w' :=
  hJ pre w w' none h ⟨hb.os, hb.tape, hb.output, hb.size, fun k hk _ => hb.block k hk⟩ (fun r e => by cases e)
theorem abide_alloc {B : Nat} {J : List GTok → World → Prop} (hJ : AbidesFrom B J) {pre : List GTok} {w : World} (h : J pre w) (o : Obj) : J pre (w.alloc o) :=
  hJ pre w _ none h (World.grownBy_alloc w o none) (fun r e => by cases e)

/-- The block of the row that the variable in box BO (a []Token) owns. -/
def ownOf (W : World) (BO : Nat) : Option Nat := match W.cell? ⟨BO, 0, none⟩ with | some v => v.ownBlock | none => none
/-- A round keeps every block of cells but the variable's box and its row; the row is the old one or a new one. -/
structure KeepsRow (BO : Nat) (A B : World) : Prop where
  size : A.heap.size ≤ B.heap.size
  same : ∀ k cs t fr, A.heap[k]? = some (.cells cs t fr) → k ≠ BO → ownOf A BO ≠ some k → B.heap[k]? = some (.cells cs t fr)
  own : ∀ k, ownOf B BO = some k → ownOf A BO = some k ∨ A.heap.size ≤ k
theorem KeepsRow.trans {BO : Nat} {A B C : World} (h : KeepsRow BO A B) (k : KeepsRow BO B C) : KeepsRow BO A C := by
  refine ⟨Nat.le_trans h.size k.size, fun i cs t fr hi hne ho => ?_, fun i hi => ?_⟩
  · refine k.same i cs t fr (h.same i cs t fr hi hne ho) hne (fun e => ?_)
    have hlt := (Array.getElem?_eq_some_iff.1 hi).1
    rcases h.own i e with e' | e'
    · exact ho e'
    · omega
  · rcases k.own i hi with e | e
    · exact h.own i e
    · exact .inr (Nat.le_trans h.size e)
theorem ownOf_eq {A B : World} {BO : Nat} (h : B.heap[BO]? = A.heap[BO]?) : ownOf B BO = ownOf A BO := by
  unfold ownOf
  rw [World.cell?_of_block (w := A) (a := ⟨BO, 0, none⟩) h]
theorem keepsRow_putObj {BO : Nat} (W : World) (l : Nat) (o o' : Obj) (hne : BO ≠ l) (h : W.heap[l]? = some o) (hc : o.isCells = false) : KeepsRow BO W (W.putObj l o') := by
  refine ⟨by simp, fun k cs t fr hk _ _ => ?_, fun k hk => .inl ?_⟩
  · rw [World.putObj_heap_other (fun e => ?_)]; exact hk
    subst e; rw [h] at hk; cases hk; cases hc
  · rw [← ownOf_eq (World.putObj_heap_other (w := W) (o := o') hne)]; exact hk
/-- The variable's box holds a slice whose row is a row of tokens. -/
def OutOk (BO : Nat) (W : World) : Prop := ∃ v, Boxed W BO 33 v ∧ ∀ k, v.ownBlock = some k → ∃ cs, W.heap[k]? = some (.cells cs 38 (0, 0))
theorem OutOk.own {BO : Nat} {W : World} (h : OutOk BO W) {k : Nat} (hk : ownOf W BO = some k) : ∃ cs, W.heap[k]? = some (.cells cs 38 (0, 0)) := by
  obtain ⟨v, hv, hr⟩ := h
  unfold ownOf at hk
  rw [hv.cell] at hk
  exact hr k hk
theorem OutOk.lt {BO : Nat} {W : World} (h : OutOk BO W) : BO < W.heap.size := by obtain ⟨v, hv, _⟩ := h; exact hv.lt

set_option maxRecDepth 100000 in
set_option maxHeartbeats 4000000 in
theorem parts1_in (n : Nat) (h1 : 1 ≤ n) (l Bn BO : Nat) (s : ByteArray) (hs : s.size ≤ 8192) (T : List Lx.Tok) (A E k0 : Nat)
    (hk0 : Lx.skipL false s.data.toList = k0) (hT : Lx.lexGo (s.data.toList.length + 1) k0 (s.data.toList.drop k0) = (T, A, E))
    (J Jx : List GTok → World → Prop) (W : World) (hJ : AbidesFrom W.heap.size J) (hQ : ∀ pre W1, J pre W1 → OutOk BO W1)
    (hY : ∀ pre x W1, J pre W1 → pre.length < s.size → YieldAt Fence.wide (n - 1) Tryd.prog l x.encs W1 fun e W' =>
      (e = .returned (.bool true) ∧ x.val.Fits ∧ J (pre ++ [x]) W' ∧ KeepsRow BO W1 W') ∨ (e = .returned (.bool false) ∧ Jx (pre ++ [x]) W'))
    (hBn : Boxed W Bn 9 (.string s)) (hne : Bn ≠ BO) (h0 : J [] W) :
    CallsIn Fence.wide n Tryd.prog 31 #[.func (.yield l) #[] #[], .pointer (some ⟨Bn, 0, none⟩)] W fun e W' => (∃ v, e = .returned v) ∧
      ((∃ ys : List GTok, (ys.map (·.val.tok) = T ∧ A = 0 ∧ E = 0) ∧ J ys W') ∨ (∃ pre, StopAt pre A E ∧ Jx pre W')) := by
  refine callsIn_of_wp Tryd.func31 rfl trivial ?_ rfl
  simp only [Tryd.ntmps31, List.size_toArray, List.length_cons, List.length_nil, Nat.reduceAdd, Nat.reduceSub, Array.replicate_succ, Array.replicate_zero, List.push_toArray, List.append_toArray, List.nil_append, List.cons_append]
  gi_wp2_with (refine ⟨trivial, ?_⟩; gi_at_call 32; refine (callsIn_wide.2 (symbols_any _)).mono ?_; rintro e w' ⟨rfl, rfl⟩)
  have hT22 : (W.alloc (.cells symCells 9)).heap[W.heap.size]? = some (.cells symCells 9 (0, 0)) := heap_alloc_new W _
  have hJ0 : J [] (W.alloc (.cells symCells 9)) := hJ _ _ _ none h0 (World.grownBy_alloc W _ none) (fun r e => by cases e)
  have hBn0 : Boxed (W.alloc (.cells symCells 9)) Bn 9 (.string s) := hBn.alloc _
  have htb : W.heap.size ≠ BO := by have := (hQ _ _ h0).lt; omega
  obtain ⟨tb, htbe⟩ : ∃ tb, W.heap.size = tb := ⟨_, rfl⟩
  obtain ⟨W0, hW0⟩ : ∃ W0, W.alloc (.cells symCells 9) = W0 := ⟨_, rfl⟩
  rw [hW0] at hT22 hJ0 hBn0 ⊢
  rw [htbe] at hT22 htb hJ ⊢
  have HK0 := Lib.hid hk0
  have HT := Lib.hid hT
  clear hW0 hk0 hT h0 hBn htbe
  gi_loopw [4] (fun t wr => ∃ (f a : Nat) (pre : List GTok), a ≤ s.size ∧ t = .int .i64 a ∧ pre.length ≤ a ∧ J pre wr ∧ Boxed wr Bn 9 (.string s) ∧ wr.heap[tb]? = some (.cells symCells 9 (0, 0)) ∧
    Hid (PartRel s f a pre T A E)) (fun t _ => s.size - (intOf t).toNat)
  case atStart => exact ⟨s.data.toList.length + 1, 0, [], by omega, rfl, Nat.le_refl _, hJ0, hBn0, hT22, Lib.hid (partRel_start HK0.out HT.out)⟩
  case round =>
    obtain ⟨f, a, pre, ha, rfl, hlen, hJs, hbel, htab, HE⟩ := hrel
    have hcs : wr.cell? ⟨Bn, 0, none⟩ = some (.string s) := hbel.cell
    by_cases hlt : a < s.size
    · obtain ⟨R, hR⟩ : ∃ R, s.extract a s.size = R := ⟨_, rfl⟩
      have hRs : R.size = s.size - a := by rw [← hR]; exact rest_size s a ha
      have hR0 : 0 < R.size := by omega
      have hRl : R.data.toList = s.data.toList.drop a := by rw [← hR]; exact rest_list s a
      have hRh : R[0] = s[a] := by
        have h1 := drop_cons R 0 hR0
        rw [List.drop_zero, hRl, drop_cons s a hlt] at h1
        injection h1 with h1 _
        exact h1.symm
      have hRm : R.size ≤ maxLen := by unfold maxLen; omega
      have hRle : a + R.size ≤ s.size := by omega
      have f1 : (a : Int) ≤ (s.size : Int) := by omega
      have HRs := Lib.hid hRs
      have HRl := Lib.hid hRl
      have HRh := Lib.hid hRh
      clear hRs hRl hRh
      by_cases hb : Lx.cls s[a] = 0
      · obtain ⟨m, hm⟩ : ∃ m, Lx.tw Lx.isBl (s.data.toList.drop a) = m := ⟨_, rfl⟩
        have Hin := Lib.hid (in_any R sBl hR0 true (by rw [HRh.out, bl_cls, hb]; rfl))
        have Hsp := Lib.hid (span_any R sBl m hRm (by rw [HRl.out, tw_congr (q := Lx.isBl) bl_cls]; exact hm))
        have hmle : a + m ≤ s.size := by have := Lx.tw_le Lx.isBl (s.data.toList.drop a); rw [hm] at this; simp at this; omega
        have hmp : 1 ≤ m := by rw [← hm, drop_cons s a hlt, Lx.tw_go (by simp [Lx.isBl, hb])]; omega
        have HM := Lib.hid hm
        clear hb hm
        gi_wp2_with (refine ⟨trivial, ?_⟩; first
          | (gi_at_call 33; refine (callsIn_wide.2 (Hin.out _)).mono ?_; rintro e w' ⟨rfl, rfl⟩)
          | (gi_at_call 34; refine (callsIn_wide.2 (Hsp.out _)).mono ?_; rintro e w' ⟨rfl, rfl⟩))
        go_roundw
        case rel => exact ⟨f, a + m, pre, hmle, by go_num, by omega, hJs, hbel, htab, Lib.hid (partRel_skip HE.out (by have := Lx.skip_blanks (s.data.toList.drop a); rw [HM.out, List.drop_drop] at this; exact this))⟩
        case measure => simp [intOf]; omega
      · have Hin := Lib.hid (in_any R sBl hR0 false (by rw [HRh.out, bl_cls]; simpa using hb))
        by_cases hc : s[a].toNat = 35
        · have hc' : ((R[0].toNat : Int) == 35) = true := by rw [HRh.out, hc]; rfl
          obtain ⟨m, hm⟩ : ∃ m, Lx.tw Lx.notNl (s.data.toList.drop a) = m := ⟨_, rfl⟩
          have Hcut := Lib.hid (cut_any R hRm m (by rw [HRl.out]; exact hm))
          have hmle : a + m ≤ s.size := by have := Lx.tw_le Lx.notNl (s.data.toList.drop a); rw [hm] at this; simp at this; omega
          have hmp : 1 ≤ m := by rw [← hm, drop_cons s a hlt, Lx.tw_go (by simp [Lx.notNl, hc])]; omega
          have hms : (R.extract 0 m).size = m := by rw [ByteArray.size_extract, HRs.out]; omega
          have HM := Lib.hid hm
          have HC := Lib.hid hc
          clear hb hm hc
          gi_wp2_with (refine ⟨trivial, ?_⟩; first
            | (gi_at_call 33; refine (callsIn_wide.2 (Hin.out _)).mono ?_; rintro e w' ⟨rfl, rfl⟩)
            | (gi_at_call 35; refine (callsIn_wide.2 (Hcut.out _)).mono ?_; rintro e w' ⟨cy, cb, cq, rfl, rfl⟩))
          go_roundw
          case rel =>
            refine ⟨f, a + m, pre, hmle, by go_num, by omega, abide_below hJ hJs (bdn (Below.refl _ _) _), hbel, htab, Lib.hid (partRel_skip HE.out ?_)⟩
            have := Lx.skip_comment s[a] (s.data.toList.drop (a + 1)) HC.out
            rw [← drop_cons s a hlt, HM.out, List.drop_drop] at this
            exact this
          case measure => simp [intOf]; omega
        · have hc' : ((R[0].toNat : Int) == 35) = false := by rw [HRh.out]; simp only [beq_eq_false_iff_ne]; omega
          obtain ⟨nn, hn⟩ : ∃ nn, Lx.tokLen (s.data.toList.drop a) = nn := ⟨_, rfl⟩
          have hgood := rawTok_good hlt hs hn
          obtain ⟨x, hx⟩ : ∃ x : GTok, x.val = rawTok s a nn hlt := ⟨⟨_, hgood⟩, rfl⟩
          obtain ⟨kd, hkd⟩ : ∃ kd, kd = if nn = 0 then 0 else Lx.kindOf s[a] := ⟨_, rfl⟩
          have hle : a + nn ≤ s.size := by have := Lx.tokLen_le (s.data.toList.drop a); rw [hn] at this; simp at this; omega
          have Hf : Hid (Calls Tryd.prog 36 #[.string R, .slice (some ⟨tb, 0, none⟩) 22 22] wr fun e w' => e = .returned (.agg #[.int .i64 (kd : Int), .int .i64 0, .int .i64 0, .string (R.extract 0 nn)]) ∧ Below wr.heap.size wr w') :=
            Lib.hid ((first_any R hR0 hRm nn kd (by rw [HRl.out]; exact hn) (by rw [HRh.out]; exact hkd) tb wr (by have := (Array.getElem?_eq_some_iff.1 htab).1; exact this) htab).mono fun _ _ h => ⟨by rw [h.1]; rfl, h.2⟩)
          have hys : (R.extract 0 nn).size = nn := by rw [ByteArray.size_extract, HRs.out]; omega
          have hencs : x.encs = #[.int .i64 (a : Int), .agg #[.int .i64 (kd : Int), .int .i64 (a : Int), .int .i64 0, .string (R.extract 0 nn)]] := by
            have e1 : (⟨x.val.text.toArray⟩ : ByteArray) = R.extract 0 nn := by
              rw [hx]
              refine WideShapes.bytes_inj ?_
              rw [Lib.extract_data, HRl.out, List.drop_zero, Nat.sub_zero]; rfl
            unfold GTok.encs
            rw [e1, hx, hkd]; rfl
          have HX := Lib.hid hx
          have HN := Lib.hid hn
          have HB := Lib.hid hb
          have HC := Lib.hid hc
          have HEn := Lib.hid hencs
          clear hb hc hx hn hencs hkd hgood
          gi_wp2_with (refine ⟨trivial, ?_⟩; first
            | (gi_at_call 33; refine (callsIn_wide.2 (Hin.out _)).mono ?_; rintro e w' ⟨rfl, rfl⟩)
            | (gi_at_call 36; refine (callsIn_wide.2 Hf.out).mono ?_; rintro e w2 ⟨rfl, hb2⟩))
          obtain ⟨w3, hw3⟩ : ∃ w3, w2.alloc (.cells #[.int .i64 (kd : Int), .int .i64 (a : Int), .int .i64 0, .string (R.extract 0 nn)] 38) = w3 := ⟨_, rfl⟩
          have hc3 : w3.cell? ⟨w2.heap.size, 3, none⟩ = some (.string (R.extract 0 nn)) := by rw [← hw3]; exact (cells_new w2 [.int .i64 (kd : Int), .int .i64 (a : Int), .int .i64 0, .string (R.extract 0 nn)] 38 3 _ rfl)
          have hJ3 : J pre w3 := by rw [← hw3]; exact abide_alloc hJ (abide_below hJ hJs hb2) _
          have hB3 : Boxed w3 Bn 9 (.string s) := by
            rw [← hw3]
            exact Boxed.alloc ((hb2.block Bn hbel.lt).trans hbel) _
          have hT3 : w3.heap[w2.heap.size]? = some (.cells #[.int .i64 (kd : Int), .int .i64 (a : Int), .int .i64 0, .string (R.extract 0 nn)] 38 (0, 0)) := by rw [← hw3]; exact heap_alloc_new w2 _
          have hO3 : ownOf w3 BO = ownOf wr BO := by
            rw [← hw3]
            have hBO := (hQ _ _ hJs).lt
            exact (ownOf_eq (Below.heap_alloc _ _ _ (Nat.lt_of_lt_of_le hBO hb2.size))).trans (ownOf_eq (hb2.block _ hBO))
          have hOs : wr.heap.size ≤ w2.heap.size := hb2.size
          have htab3 : w3.heap[tb]? = some (.cells symCells 9 (0, 0)) := by
            have hlt3 := (Array.getElem?_eq_some_iff.1 htab).1
            rw [← hw3, Below.heap_alloc _ _ _ (Nat.lt_of_lt_of_le hlt3 hb2.size), hb2.block _ hlt3]; exact htab
          rw [hw3]
          obtain ⟨fn, tmps, assign, body, hy, hRn⟩ := hY pre x w3 hJ3 (by omega)
          rw [HEn.out] at hy
          have HRn := Lib.hid hRn
          have hw3' := hw3
          clear hRn hw3
          rw [hy]
          gi_wp2
          refine HRn.out.mono ?_
          rintro e W4 (⟨rfl, hfit, hJ4, hk4⟩ | ⟨rfl, hJx4⟩)
          · have hQr := hQ _ _ hJs
            have hown9 : ∀ k cs, w3.heap[k]? = some (.cells cs 9 (0, 0)) → k < wr.heap.size → ownOf w3 BO ≠ some k := fun k cs hk hklt e => by
              rw [hO3] at e
              obtain ⟨cs', hcs'⟩ := hQr.own e
              rw [← hw3', Below.heap_alloc _ _ _ (Nat.lt_of_lt_of_le hklt hb2.size), hb2.block _ hklt, hcs'] at hk
              cases hk
            have htlt := (Array.getElem?_eq_some_iff.1 htab).1
            have hB4 : Boxed W4 Bn 9 (.string s) := hk4.same _ _ _ _ hB3 hne (hown9 _ _ hB3 hbel.lt)
            have htab4 := hk4.same _ _ _ _ htab3 htb (hown9 _ _ htab3 htlt)
            have hT4 := hk4.same _ _ _ _ hT3 (by have := hQr.lt; omega) (fun e => by
              rw [hO3] at e
              obtain ⟨cs', hcs'⟩ := hQr.own e
              have := (Array.getElem?_eq_some_iff.1 hcs').1
              omega)
            have hc4 : W4.cell? ⟨w2.heap.size, 3, none⟩ = some (.string (R.extract 0 nn)) := by rw [cell_of_row _ w2.heap.size 3 _ 38 (0, 0) hT4]; rfl
            have HFit := Lib.hid hfit
            clear hfit hown9 hT4 hT3 hO3 hw3'
            gi_wp2
            go_roundw
            case rel =>
              obtain ⟨hn1, g, hg⟩ := partRel_tok HE.out hlt HB.out HC.out HN.out HX.out HFit.out
              exact ⟨g, a + nn, pre ++ [x], hle, by go_num, by simp; omega, hJ4, hB4, htab4, Lib.hid hg⟩
            case measure =>
              obtain ⟨hn1, g, hg⟩ := partRel_tok HE.out hlt HB.out HC.out HN.out HX.out HFit.out
              simp [intOf]; omega
          · gi_wp2
            refine bodyPost_ret (results_none rfl _ _ _) rfl ?_
            exact ⟨⟨_, rfl⟩, .inr ⟨pre ++ [x], partRel_stop HE.out hlt HB.out HC.out HN.out HX.out, hJx4⟩⟩
    · gi_wp2
      go_end0
      exact ⟨⟨_, rfl⟩, .inl ⟨pre, partRel_end HE.out ha (by omega), hJs⟩⟩

end Go.Proofs.YtgmlghmlmfbfjaaDoor
