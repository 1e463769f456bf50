/- ref tokens -/
import Derived.Test.YtgmlghmlmfbfjaaDoorVa
namespace Go.Proofs.YtgmlghmlmfbfjaaDoor
open Go.RowKit

theorem same_below {w w' : World} (h : w' = w) : Below w.heap.size w w' := by subst h; exact Below.refl _ _
theorem end_any (s : ByteArray) (a n : Nat) (w : World) (hs : s.size ≤ maxLen - 2) (ha : a < s.size) (hn : Lx.tokLen (s.data.toList.drop a) = n) :
    Calls Tryd.prog 28 #[.string s, .int .i64 (a : Int)] w fun e w' => e = .returned (.int .i64 ((a : Int) + (n : Int))) ∧ Below w.heap.size w w' := by
  rw [drop_cons s a ha] at hn
  simp only [Lx.tokLen] at hn
  have hs' : s.size ≤ maxLen := by omega
  by_cases h1 : Lx.cls s[a] = 1
  · rw [if_pos h1] at hn
    exact (end_small s a w hs' ha h1).mono fun e w' h => ⟨by rw [h.1]; congr 2; omega, same_below h.2⟩
  · rw [if_neg h1] at hn
    by_cases h2 : Lx.cls s[a] = 2
    · rw [if_pos h2] at hn
      exact (end_cap s a w hs' ha h2).mono fun e w' h => ⟨by rw [h.1]; congr 2; omega, same_below h.2⟩
    · rw [if_neg h2] at hn
      by_cases h3 : Lx.cls s[a] = 3
      · rw [if_pos h3] at hn
        exact (end_num s a w hs' ha h3).mono fun e w' h => ⟨by rw [h.1]; congr 2; omega, same_below h.2⟩
      · rw [if_neg h3] at hn
        rw [← drop_cons s a ha] at hn
        exact (end_sym s a _ w hs ha rfl (by omega)).mono fun e w' h => ⟨by rw [h.1]; congr 2; omega, h.2⟩

theorem class_int (c : UInt8) (m : Int) (h : (Lx.cls c : Int) = m) (w : World) : Calls Tryd.prog 29 #[.int .u8 (c.toNat : Int)] w fun e w' => e = .returned (.int .i64 m) ∧ w = w' := by
  subst h; exact (class_any c w).mono fun e w' h => ⟨h.1, h.2.symm⟩

theorem class_of (c : UInt8) : Lx.cls c = 0 ∨ Lx.cls c = 1 ∨ Lx.cls c = 2 ∨ Lx.cls c = 3 ∨ Lx.cls c = 4 ∨ Lx.cls c = 5 ∨ Lx.cls c = 6 := by
  have := Lx.cls_le c
  omega
/-- A token's cells. -/
def tokCells (t : Lx.Tok) : List Value := [.int .i64 (t.kind : Int), .int .i64 (t.at_ : Int), .int .i64 (t.num : Int), .string ⟨t.text.toArray⟩]
def rowOf (ts : List Lx.Tok) : List Value := ts.flatMap tokCells
theorem rowOf_length : ∀ ts : List Lx.Tok, (rowOf ts).length = ts.length * 4
  | [] => rfl
  | t :: r => by
    have := rowOf_length r
    show (tokCells t ++ rowOf r).length = _
    rw [List.length_append, this, List.length_cons]
    show 4 + _ = _
    omega
theorem rowOf_snoc (ts : List Lx.Tok) (t : Lx.Tok) : rowOf (ts ++ [t]) = rowOf ts ++ tokCells t := by simp [rowOf]

theorem Tryd.info57 : (Tryd.prog.info? 57).map (fun i => (i.zero, i.size, i.bytes)) = some (some (.agg #[.int .i64 0, .int .i64 0, .int .i64 0, .string ⟨#[]⟩]), 4, 40) := by kernel_rfl
theorem Tryd.info38 : (Tryd.prog.info? 38).map (fun i => (i.zero, i.size, i.bytes)) = some (some (.agg #[.int .i64 0, .int .i64 0, .int .i64 0, .string ⟨#[]⟩]), 4, 40) := by kernel_rfl

theorem own_below {w w' : World} {base : Nat} {e : TypeId} {size : Nat} {v : Value} {n : Nat} {xs : List Value} (h : w.ownsRow base e size v n xs) (hb : Below w.heap.size w w') : w'.ownsRow base e size v n xs :=
  h.kept (row := none) ⟨hb.os, hb.tape, hb.output, hb.size, fun k hk _ => hb.block k hk⟩ (by cases hv : v.ownBlock <;> simp)

theorem cells_new (w : World) (cs : List Value) (t : TypeId) : ∀ j u, cs[j]? = some u → (w.alloc (.cells cs.toArray t)).cell? ((⟨w.heap.size, 0, none⟩ : Addr).add j) = some u := by
  intro j u hj
  have hadd : (⟨w.heap.size, 0, none⟩ : Addr).add j = ⟨w.heap.size, j, none⟩ := by unfold Addr.add; split <;> simp_all
  rw [hadd, cell_of_row _ w.heap.size j cs.toArray t (0, 0) (heap_alloc_new w _)]
  simpa using hj
theorem cells_new1 (w : World) (o : Obj) (cs : List Value) (t : TypeId) : ∀ j u, cs[j]? = some u → ((w.alloc o).alloc (.cells cs.toArray t)).cell? ((⟨w.heap.size + 1, 0, none⟩ : Addr).add j) = some u := by
  have := cells_new (w.alloc o) cs t
  rw [World.size_alloc] at this
  exact this
theorem one_cells (a b c : Int) (x : ByteArray) : ∀ u ∈ ([.int .i64 a, .int .i64 b, .int .i64 c, .string x] : List Value), u.oneCell' = true := by
  intro u hu
  simp only [List.mem_cons, List.not_mem_nil, or_false] at hu
  rcases hu with rfl | rfl | rfl | rfl <;> rfl

theorem rel_step {s : ByteArray} {a n k f : Nat} {ts T : List Lx.Tok} {A E : Nat} (h : s.size < a + (f + 1) ∧ (ts ++ (Lx.lexGo (f + 1) a (s.data.toList.drop a)).1, (Lx.lexGo (f + 1) a (s.data.toList.drop a)).2) = (T, A, E))
    (hlt : a < s.size) (hn : Lx.tokLen (s.data.toList.drop a) = n) (hn0 : 1 ≤ n) (hw : Lx.wide s[a] ((s.data.toList.drop a).take n) = false) (hk : Lx.skipL false (s.data.toList.drop (a + n)) = k) :
    s.size < (a + n + k) + f ∧ ((ts ++ [{ kind := Lx.kindOf s[a], at_ := a, num := Lx.numOf s[a] ((s.data.toList.drop a).take n), text := (s.data.toList.drop a).take n }]) ++ (Lx.lexGo f (a + n + k) (s.data.toList.drop (a + n + k))).1, (Lx.lexGo f (a + n + k) (s.data.toList.drop (a + n + k))).2) = (T, A, E) := by
  obtain ⟨h1, h2⟩ := h
  refine ⟨by omega, ?_⟩
  rw [← h2]
  have hd := drop_cons s a hlt
  have hdd : s.data.toList.drop (a + n) = (s[a] :: s.data.toList.drop (a + 1)).drop n := by rw [← hd, List.drop_drop]
  have hdk : s.data.toList.drop (a + n + k) = (s[a] :: s.data.toList.drop (a + 1)).drop (n + k) := by rw [← hd, List.drop_drop, Nat.add_assoc]
  rw [hdd] at hk
  rw [hdk]
  rw [hd] at hn hw ⊢
  subst hn
  rw [Lx.lexGo_go (by omega) hw hk]
  simp
theorem rel_none {s : ByteArray} {a f : Nat} {ts T : List Lx.Tok} {A E : Nat} (h : s.size < a + (f + 1) ∧ (ts ++ (Lx.lexGo (f + 1) a (s.data.toList.drop a)).1, (Lx.lexGo (f + 1) a (s.data.toList.drop a)).2) = (T, A, E))
    (hlt : a < s.size) (hn : Lx.tokLen (s.data.toList.drop a) = 0) : A = a ∧ E = 2 := by
  have h2 := h.2
  rw [drop_cons s a hlt] at hn h2
  rw [Lx.lexGo_none hn] at h2
  simp only [Prod.mk.injEq] at h2
  exact ⟨h2.2.1.symm, h2.2.2.symm⟩
theorem rel_wide {s : ByteArray} {a n f : Nat} {ts T : List Lx.Tok} {A E : Nat} (h : s.size < a + (f + 1) ∧ (ts ++ (Lx.lexGo (f + 1) a (s.data.toList.drop a)).1, (Lx.lexGo (f + 1) a (s.data.toList.drop a)).2) = (T, A, E))
    (hlt : a < s.size) (hn : Lx.tokLen (s.data.toList.drop a) = n) (hn0 : 1 ≤ n) (hw : Lx.wide s[a] ((s.data.toList.drop a).take n) = true) : A = a ∧ E = 4 := by
  have h2 := h.2
  rw [drop_cons s a hlt] at hn h2 hw
  subst hn
  rw [Lx.lexGo_wide (by omega) hw] at h2
  simp only [Prod.mk.injEq] at h2
  exact ⟨h2.2.1.symm, h2.2.2.symm⟩
theorem rel_end {s : ByteArray} {a f : Nat} {ts T : List Lx.Tok} {A E : Nat} (h : s.size < a + (f + 1) ∧ (ts ++ (Lx.lexGo (f + 1) a (s.data.toList.drop a)).1, (Lx.lexGo (f + 1) a (s.data.toList.drop a)).2) = (T, A, E))
    (hge : s.size ≤ a) : ts = T ∧ A = 0 ∧ E = 0 := by
  have h2 := h.2
  rw [drop_end s a hge] at h2
  simp only [Lx.lexGo, List.append_nil, Prod.mk.injEq] at h2
  exact ⟨h2.1, h2.2.1.symm, h2.2.2.symm⟩
/-- The tokens that are handed back: none beside an error. -/
def outOf (T : List Lx.Tok) (E : Nat) : List Lx.Tok := if E = 0 then T else []
theorem text_eq (s : ByteArray) (a n : Nat) : (⟨((s.data.toList.drop a).take n).toArray⟩ : ByteArray) = s.extract a (a + n) := by
  have h : (s.extract a (a + n)).data.toList = (s.data.toList.drop a).take n := by rw [Lib.extract_data, Nat.add_sub_cancel_left]
  rw [← h]
/-- What a way out hands back. -/
def TokPost (w : World) (T : List Lx.Tok) (A E : Nat) (e : Ending) (w' : World) : Prop :=
  ∃ v, e = .returned (.tuple #[v, .int .i64 (A : Int), .int .i64 (E : Int)]) ∧ w'.ownsRow w.heap.size 57 4 v (outOf T E).length (rowOf (outOf T E)) ∧ Below w.heap.size w w'
theorem tokPost_err {w w' : World} {T : List Lx.Tok} {A E a n : Nat} (h : A = a ∧ E = n) (hn : n ≠ 0) (hb : Below w.heap.size w w') : TokPost w T A E (.returned (.tuple #[.slice none 0 0, .int .i64 (a : Int), .int .i64 (n : Int)])) w' := by
  obtain ⟨rfl, rfl⟩ := h
  refine ⟨_, rfl, ?_, hb⟩
  unfold outOf
  rw [if_neg hn]
  exact World.ownsRow_nil _ _ _ _
theorem vcap_dec (l : List UInt8) : (Lx.dec l ≤ 1099511627776 ∧ vcap 0 l = Lx.dec l) ∨ (1099511627776 < Lx.dec l ∧ vcap 0 l = 1099511627777) := by
  show (Lx.decF 0 l ≤ 1099511627776 ∧ capAt lim (Lx.decF 0 l) = Lx.decF 0 l) ∨ (1099511627776 < Lx.decF 0 l ∧ capAt lim (Lx.decF 0 l) = 1099511627777)
  generalize Lx.decF 0 l = d
  unfold capAt
  rw [lim_eq]
  by_cases h : 1099511627777 < d
  · rw [if_pos h]; exact .inr ⟨by omega, rfl⟩
  · rw [if_neg h]
    by_cases h2 : d ≤ 1099511627776
    · exact .inl ⟨h2, rfl⟩
    · exact .inr ⟨by omega, by omega⟩
theorem symIn_two : ∀ (t : List (List UInt8)) (l : List UInt8), (∀ x ∈ t, x.length ≤ 2) → Lx.symIn t l ≤ 2
  | [], _, _ => Nat.zero_le _
  | t :: r, l, h => by
    simp only [Lx.symIn]
    split
    · exact h t (by simp)
    · exact symIn_two r l (fun x hx => h x (by simp [hx]))
theorem sym_short {s : ByteArray} {a n : Nat} (hlt : a < s.size) (hn : Lx.tokLen (s.data.toList.drop a) = n) (hc : ¬ (Lx.cls s[a] = 1 ∨ Lx.cls s[a] = 2 ∨ Lx.cls s[a] = 3)) : n ≤ 16 := by
  rw [drop_cons s a hlt] at hn
  simp only [Lx.tokLen] at hn
  rw [if_neg (by omega), if_neg (by omega), if_neg (by omega)] at hn
  have := symIn_two Lx.syms (s[a] :: s.data.toList.drop (a + 1)) (by decide)
  omega
theorem digits_tok {s : ByteArray} {a n : Nat} (hlt : a < s.size) (hn : Lx.tokLen (s.data.toList.drop a) = n) (hc : Lx.cls s[a] = 3) : ∀ c ∈ (s.data.toList.drop a).take n, Lx.digit c := by
  rw [drop_cons s a hlt] at hn ⊢
  simp only [Lx.tokLen] at hn
  rw [if_neg (by omega), if_neg (by omega), if_pos hc] at hn
  subst hn
  intro c h
  rw [Nat.add_comm, List.take_succ_cons, List.mem_cons] at h
  rcases h with rfl | h
  · exact Lx.digit_of_cls hc
  · exact Lx.tw_digits _ _ h
theorem own_step {w : World} {B : Nat} {v : Value} {ts : List Lx.Tok} {Ki Vi : Int} {a K V : Nat} {x : ByteArray} {t : List UInt8}
    (h : w.ownsRow B 57 4 v (ts.length + 1) (rowOf ts ++ [.int .i64 Ki, .int .i64 (a : Int), .int .i64 Vi, .string x])) (hK : (K : Int) = Ki) (hV : (V : Int) = Vi) (hx : (⟨t.toArray⟩ : ByteArray) = x) :
    w.ownsRow B 57 4 v (ts ++ [({ kind := K, at_ := a, num := V, text := t } : Lx.Tok)]).length (rowOf (ts ++ [({ kind := K, at_ := a, num := V, text := t } : Lx.Tok)])) := by
  subst hK hV hx
  rw [rowOf_snoc, List.length_append]
  exact h
theorem size2 {B : Nat} {w2 : World} (o1 o2 : Obj) (h : B ≤ w2.heap.size) : B ≤ ((w2.alloc o1).alloc o2).heap.size := by simp; omega

set_option maxRecDepth 100000 in
set_option maxHeartbeats 8000000 in
theorem refTokens_walk (s : ByteArray) (w : World) (hs : s.size ≤ 8192) (T : List Lx.Tok) (A E k0 : Nat)
    (hk0 : Lx.skipL false s.data.toList = k0) (hT : Lx.lexGo (s.data.toList.length + 1) k0 (s.data.toList.drop k0) = (T, A, E)) :
    Calls Tryd.prog 22 #[.string s] w (TokPost w T A E) := by
  obtain ⟨i0, hi, hz0, hz1, hz2⟩ := info_parts Tryd.info57
  have hsm : s.size ≤ maxLen := by unfold maxLen; omega
  have hk0l : k0 ≤ s.size := by have := Lx.skipL_le s.data.toList false; rw [hk0] at this; simpa using this
  have skip0 : Calls Tryd.prog 27 #[.string s, .int .i64 0] w fun e w' => e = .returned (.int .i64 (k0 : Int)) ∧ w = w' := by
    have := skip_any s 0 w hsm (by omega)
    rw [List.drop_zero, hk0, Nat.zero_add] at this
    exact this.mono fun e w' h => ⟨h.1, h.2.symm⟩
  have HS := Lib.hid skip0
  clear skip0
  have HT := Lib.hid hT
  clear hk0 hT
  go_enter Tryd.func22, Tryd.ntmps22
  go_wp2_with (go_at_call 27; refine HS.out.mono ?_; rintro e w' ⟨rfl, rfl⟩)
  clear HS
  go_loopw [5, 6] (fun v t wr => ∃ (f a : Nat) (ts : List Lx.Tok), a ≤ s.size ∧ t = .int .i64 a ∧ ts.length ≤ a ∧ wr.ownsRow w.heap.size 57 4 v ts.length (rowOf ts) ∧ Below w.heap.size w wr ∧
    Hid (s.size < a + f ∧ (ts ++ (Lx.lexGo f a (s.data.toList.drop a)).1, (Lx.lexGo f a (s.data.toList.drop a)).2) = (T, A, E))) (fun _ t _ => s.size - (intOf t).toNat)
  case atStart => exact ⟨s.data.toList.length + 1, k0, [], hk0l, rfl, Nat.zero_le _, World.ownsRow_nil _ _ _ _, Below.refl _ _, Lib.hid ⟨by simp; omega, by rw [HT.out]; rfl⟩⟩
  case round =>
    obtain ⟨f, a, ts, ha, rfl, hlen, hown, hbel, HE⟩ := hrel
    obtain ⟨f, rfl⟩ : ∃ g, f = g + 1 := ⟨f - 1, by have := HE.out.1; omega⟩
    by_cases hlt : a < s.size
    · obtain ⟨n, hn⟩ : ∃ n, Lx.tokLen (s.data.toList.drop a) = n := ⟨_, rfl⟩
      have hend := end_any s a n wr (by unfold maxLen; omega) hlt hn
      have HEnd := Lib.hid hend
      have HN := Lib.hid hn
      clear hend hn
      by_cases hn0 : n = 0
      · subst hn0
        go_wp2_with (go_at_call 28; refine HEnd.out.mono ?_; rintro e w2 ⟨rfl, hb2⟩)
        go_ret3
        exact tokPost_err (rel_none HE.out hlt HN.out) (by decide) (hbel.trans (hb2.mono hbel.size))
      · have hnp : 1 ≤ n := by omega
        have hle : a + n ≤ s.size := by have := Lx.tokLen_le (s.data.toList.drop a); rw [HN.out] at this; simp at this; omega
        have f0 : (0 : Int) ≤ (a : Int) := by omega
        have f1 : (a : Int) ≤ (a : Int) + (n : Int) := by omega
        have f2 : (a : Int) + (n : Int) ≤ (s.size : Int) := by omega
        have hsz : (s.extract a (a + n)).size = n := by rw [ByteArray.size_extract]; omega
        have hne : ((a : Int) + (n : Int) == (a : Int)) = false := by simp only [beq_eq_false_iff_ne]; omega
        have htl : ((s.data.toList.drop a).take n).length = n := by rw [List.length_take, List.length_drop]; simp; omega
        have HTL := Lib.hid htl
        clear htl
        obtain ⟨k, hk⟩ : ∃ k, Lx.skipL false (s.data.toList.drop (a + n)) = k := ⟨_, rfl⟩
        have hkle : a + n + k ≤ s.size := by have := Lx.skipL_le (s.data.toList.drop (a + n)) false; rw [hk] at this; simp at this; omega
        have hskip : ∀ W : World, Calls Tryd.prog 27 #[.string s, .int .i64 ((a : Int) + (n : Int))] W fun e w' => e = .returned (.int .i64 ((a + n + k : Nat) : Int)) ∧ W = w' := fun W => by
          have := skip_any s (a + n) W hsm hle
          rw [hk] at this
          exact this.mono fun e w' h => ⟨h.1, h.2.symm⟩
        have HSk := Lib.hid hskip
        have HK := Lib.hid hk
        clear hskip hk
        have hcls := class_of s[a]
        rcases hcls with hm | hm | hm | hm | hm | hm | hm
        · have hcl := class_int s[a] 0 (by rw [hm]; rfl)
          have HC := Lib.hid hcl
          have HM := Lib.hid hm
          clear hcl hm
          · have hwn : n ≤ 16 := sym_short hlt HN.out (by rw [HM.out]; decide)
            have hc3 : ts.length + 1 ≤ maxLen := by unfold maxLen; omega
            have hc4 : (ts.length + 1) * 40 ≤ 140737488355328 := by omega
            go_wp2_with (first
              | (go_at_call 28; refine HEnd.out.mono ?_; rintro e w2 ⟨rfl, hb2⟩)
              | (go_at_call 29; refine (HC.out _).mono ?_; rintro e w' ⟨rfl, rfl⟩)
              | (go_at_call 27; refine (HSk.out _).mono ?_; rintro e w' ⟨rfl, rfl⟩)
              | (at_builtin; refine wpList_append_own _ rfl _ _ 42 rfl w.heap.size 57 i0 _ 4 40 Tryd.underlying42 hi hz0 hz1 hz2 rfl (by decide) _ ts.length (rowOf ts) rfl (((own_below hown hb2).alloc _).alloc _) _ 1 1 [.int .i64 3, .int .i64 (a : Int), .int .i64 0, .string (s.extract a (a + n))] rfl rfl (cells_new1 _ _ _ _) (one_cells _ _ _ _) hc3 hc4 (size2 _ _ (Nat.le_trans hbel.size hb2.size)) ?_; intro v' w3 hown3 hg3 _))
            go_roundw
            case rel =>
              refine ⟨f, a + n + k, _, hkle, by go_num, ?_, own_step hown3 (K := Lx.kindOf s[a]) (V := Lx.numOf s[a] ((s.data.toList.drop a).take n)) (by unfold Lx.kindOf; rw [HM.out]; rfl) (by unfold Lx.numOf; rw [HM.out]; rfl) (text_eq s a n), ?_, Lib.hid (rel_step HE.out hlt HN.out hnp (by unfold Lx.wide; rw [if_neg (by rw [HM.out]; decide), if_neg (by rw [HM.out]; decide)]) HK.out)⟩
              · simp; omega
              · exact (((hbel.trans (hb2.mono hbel.size)).alloc (Nat.le_trans hbel.size hb2.size) _).alloc (by simp; exact Nat.le_succ_of_le (Nat.le_trans hbel.size hb2.size)) _).grown hg3 (size2 _ _ (Nat.le_trans hbel.size hb2.size)) (fun j hj => (World.ownsRow.lt hown j hj).1)
            case measure => simp [intOf]; omega
        · have hcl := class_int s[a] 1 (by rw [hm]; rfl)
          have HC := Lib.hid hcl
          have HM := Lib.hid hm
          clear hcl hm
          by_cases hw : 16 < n
          · go_wp2_with (first | (go_at_call 28; refine HEnd.out.mono ?_; rintro e w2 ⟨rfl, hb2⟩) | (go_at_call 29; refine (HC.out _).mono ?_; rintro e w' ⟨rfl, rfl⟩))
            go_ret3
            exact tokPost_err (rel_wide HE.out hlt HN.out hnp (by unfold Lx.wide; rw [if_pos (by rw [HM.out]; simp), HTL.out]; exact decide_eq_true hw)) (by decide) ((hbel.trans (hb2.mono hbel.size)).alloc (Nat.le_trans hbel.size hb2.size) _)
          · have hwn : n ≤ 16 := by omega
            have hc3 : ts.length + 1 ≤ maxLen := by unfold maxLen; omega
            have hc4 : (ts.length + 1) * 40 ≤ 140737488355328 := by omega
            go_wp2_with (first
              | (go_at_call 28; refine HEnd.out.mono ?_; rintro e w2 ⟨rfl, hb2⟩)
              | (go_at_call 29; refine (HC.out _).mono ?_; rintro e w' ⟨rfl, rfl⟩)
              | (go_at_call 27; refine (HSk.out _).mono ?_; rintro e w' ⟨rfl, rfl⟩)
              | (at_builtin; refine wpList_append_own _ rfl _ _ 42 rfl w.heap.size 57 i0 _ 4 40 Tryd.underlying42 hi hz0 hz1 hz2 rfl (by decide) _ ts.length (rowOf ts) rfl (((own_below hown hb2).alloc _).alloc _) _ 1 1 [.int .i64 0, .int .i64 (a : Int), .int .i64 0, .string (s.extract a (a + n))] rfl rfl (cells_new1 _ _ _ _) (one_cells _ _ _ _) hc3 hc4 (size2 _ _ (Nat.le_trans hbel.size hb2.size)) ?_; intro v' w3 hown3 hg3 _))
            go_roundw
            case rel =>
              refine ⟨f, a + n + k, _, hkle, by go_num, ?_, own_step hown3 (K := Lx.kindOf s[a]) (V := Lx.numOf s[a] ((s.data.toList.drop a).take n)) (by unfold Lx.kindOf; rw [HM.out]; rfl) (by unfold Lx.numOf; rw [HM.out]; rfl) (text_eq s a n), ?_, Lib.hid (rel_step HE.out hlt HN.out hnp (by unfold Lx.wide; rw [if_pos (by rw [HM.out]; simp), HTL.out]; exact decide_eq_false hw) HK.out)⟩
              · simp; omega
              · exact (((hbel.trans (hb2.mono hbel.size)).alloc (Nat.le_trans hbel.size hb2.size) _).alloc (by simp; exact Nat.le_succ_of_le (Nat.le_trans hbel.size hb2.size)) _).grown hg3 (size2 _ _ (Nat.le_trans hbel.size hb2.size)) (fun j hj => (World.ownsRow.lt hown j hj).1)
            case measure => simp [intOf]; omega
        · have hcl := class_int s[a] 2 (by rw [hm]; rfl)
          have HC := Lib.hid hcl
          have HM := Lib.hid hm
          clear hcl hm
          by_cases hw : 16 < n
          · go_wp2_with (first | (go_at_call 28; refine HEnd.out.mono ?_; rintro e w2 ⟨rfl, hb2⟩) | (go_at_call 29; refine (HC.out _).mono ?_; rintro e w' ⟨rfl, rfl⟩))
            go_ret3
            exact tokPost_err (rel_wide HE.out hlt HN.out hnp (by unfold Lx.wide; rw [if_pos (by rw [HM.out]; simp), HTL.out]; exact decide_eq_true hw)) (by decide) ((hbel.trans (hb2.mono hbel.size)).alloc (Nat.le_trans hbel.size hb2.size) _)
          · have hwn : n ≤ 16 := by omega
            have hc3 : ts.length + 1 ≤ maxLen := by unfold maxLen; omega
            have hc4 : (ts.length + 1) * 40 ≤ 140737488355328 := by omega
            go_wp2_with (first
              | (go_at_call 28; refine HEnd.out.mono ?_; rintro e w2 ⟨rfl, hb2⟩)
              | (go_at_call 29; refine (HC.out _).mono ?_; rintro e w' ⟨rfl, rfl⟩)
              | (go_at_call 27; refine (HSk.out _).mono ?_; rintro e w' ⟨rfl, rfl⟩)
              | (at_builtin; refine wpList_append_own _ rfl _ _ 42 rfl w.heap.size 57 i0 _ 4 40 Tryd.underlying42 hi hz0 hz1 hz2 rfl (by decide) _ ts.length (rowOf ts) rfl (((own_below hown hb2).alloc _).alloc _) _ 1 1 [.int .i64 1, .int .i64 (a : Int), .int .i64 0, .string (s.extract a (a + n))] rfl rfl (cells_new1 _ _ _ _) (one_cells _ _ _ _) hc3 hc4 (size2 _ _ (Nat.le_trans hbel.size hb2.size)) ?_; intro v' w3 hown3 hg3 _))
            go_roundw
            case rel =>
              refine ⟨f, a + n + k, _, hkle, by go_num, ?_, own_step hown3 (K := Lx.kindOf s[a]) (V := Lx.numOf s[a] ((s.data.toList.drop a).take n)) (by unfold Lx.kindOf; rw [HM.out]; rfl) (by unfold Lx.numOf; rw [HM.out]; rfl) (text_eq s a n), ?_, Lib.hid (rel_step HE.out hlt HN.out hnp (by unfold Lx.wide; rw [if_pos (by rw [HM.out]; simp), HTL.out]; exact decide_eq_false hw) HK.out)⟩
              · simp; omega
              · exact (((hbel.trans (hb2.mono hbel.size)).alloc (Nat.le_trans hbel.size hb2.size) _).alloc (by simp; exact Nat.le_succ_of_le (Nat.le_trans hbel.size hb2.size)) _).grown hg3 (size2 _ _ (Nat.le_trans hbel.size hb2.size)) (fun j hj => (World.ownsRow.lt hown j hj).1)
            case measure => simp [intOf]; omega
        · have hcl := class_int s[a] 3 (by rw [hm]; rfl)
          have HC := Lib.hid hcl
          have HM := Lib.hid hm
          clear hcl hm
          have hval : ∀ W : World, Calls Tryd.prog 30 #[.string (s.extract a (a + n))] W fun e w' => e = .returned (.int .i64 (vcap 0 ((s.data.toList.drop a).take n) : Nat)) ∧ W = w' := fun W => by
            have h1 : (s.extract a (a + n)).data.toList = (s.data.toList.drop a).take n := by rw [Lib.extract_data, Nat.add_sub_cancel_left]
            have := value_any (s.extract a (a + n)) W (by rw [hsz]; unfold maxLen; omega) (by rw [h1]; exact digits_tok hlt HN.out HM.out)
            rw [h1] at this
            exact this.mono fun e w' h => ⟨h.1, h.2.symm⟩
          have hdd := vcap_dec ((s.data.toList.drop a).take n)
          rcases hdd with ⟨hdl, hdv⟩ | ⟨hdl, hdv⟩
          · have HD := Lib.hid hdv
            obtain ⟨d, hd⟩ : ∃ d, vcap 0 ((s.data.toList.drop a).take n) = d := ⟨_, rfl⟩
            rw [hd] at hval
            have hdle : d ≤ 1099511627776 := by rw [← hd, hdv]; exact hdl
            have HDV := Lib.hid hd
            have HDL := Lib.hid hdl
            have HV := Lib.hid hval
            clear hval hd hdv hdl
            have hc3 : ts.length + 1 ≤ maxLen := by unfold maxLen; omega
            have hc4 : (ts.length + 1) * 40 ≤ 140737488355328 := by omega
            go_wp2_with (first
              | (go_at_call 28; refine HEnd.out.mono ?_; rintro e w2 ⟨rfl, hb2⟩)
              | (go_at_call 29; refine (HC.out _).mono ?_; rintro e w' ⟨rfl, rfl⟩)
              | (go_at_call 27; refine (HSk.out _).mono ?_; rintro e w' ⟨rfl, rfl⟩)
              | (go_at_call 30; refine (HV.out _).mono ?_; rintro e w' ⟨rfl, rfl⟩)
              | (at_builtin; refine wpList_append_own _ rfl _ _ 42 rfl w.heap.size 57 i0 _ 4 40 Tryd.underlying42 hi hz0 hz1 hz2 rfl (by decide) _ ts.length (rowOf ts) rfl (((own_below hown hb2).alloc _).alloc _) _ 1 1 [.int .i64 2, .int .i64 (a : Int), .int .i64 (d : Int), .string (s.extract a (a + n))] rfl rfl (cells_new1 _ _ _ _) (one_cells _ _ _ _) hc3 hc4 (size2 _ _ (Nat.le_trans hbel.size hb2.size)) ?_; intro v' w3 hown3 hg3 _))
            go_roundw
            case rel =>
              refine ⟨f, a + n + k, _, hkle, by go_num, ?_, own_step hown3 (K := Lx.kindOf s[a]) (V := Lx.numOf s[a] ((s.data.toList.drop a).take n)) (by unfold Lx.kindOf; rw [HM.out]; rfl) (by unfold Lx.numOf; rw [if_pos HM.out, ← HD.out, HDV.out]) (text_eq s a n), ?_, Lib.hid (rel_step HE.out hlt HN.out hnp (by unfold Lx.wide; rw [if_neg (by rw [HM.out]; decide), if_pos HM.out]; exact decide_eq_false (by have := HDL.out; omega)) HK.out)⟩
              · simp; omega
              · exact (((hbel.trans (hb2.mono hbel.size)).alloc (Nat.le_trans hbel.size hb2.size) _).alloc (by simp; exact Nat.le_succ_of_le (Nat.le_trans hbel.size hb2.size)) _).grown hg3 (size2 _ _ (Nat.le_trans hbel.size hb2.size)) (fun j hj => (World.ownsRow.lt hown j hj).1)
            case measure => simp [intOf]; omega
          · have HD := Lib.hid hdv
            rw [hdv] at hval
            have HDL := Lib.hid hdl
            have HV := Lib.hid hval
            clear hval hdv hdl
            go_wp2_with (first | (go_at_call 28; refine HEnd.out.mono ?_; rintro e w2 ⟨rfl, hb2⟩) | (go_at_call 29; refine (HC.out _).mono ?_; rintro e w' ⟨rfl, rfl⟩) | (go_at_call 30; refine (HV.out _).mono ?_; rintro e w' ⟨rfl, rfl⟩))
            go_ret3
            exact tokPost_err (rel_wide HE.out hlt HN.out hnp (by unfold Lx.wide; rw [if_neg (by rw [HM.out]; decide), if_pos HM.out]; exact decide_eq_true HDL.out)) (by decide) ((hbel.trans (hb2.mono hbel.size)).alloc (Nat.le_trans hbel.size hb2.size) _)
        · have hcl := class_int s[a] 4 (by rw [hm]; rfl)
          have HC := Lib.hid hcl
          have HM := Lib.hid hm
          clear hcl hm
          · have hwn : n ≤ 16 := sym_short hlt HN.out (by rw [HM.out]; decide)
            have hc3 : ts.length + 1 ≤ maxLen := by unfold maxLen; omega
            have hc4 : (ts.length + 1) * 40 ≤ 140737488355328 := by omega
            go_wp2_with (first
              | (go_at_call 28; refine HEnd.out.mono ?_; rintro e w2 ⟨rfl, hb2⟩)
              | (go_at_call 29; refine (HC.out _).mono ?_; rintro e w' ⟨rfl, rfl⟩)
              | (go_at_call 27; refine (HSk.out _).mono ?_; rintro e w' ⟨rfl, rfl⟩)
              | (at_builtin; refine wpList_append_own _ rfl _ _ 42 rfl w.heap.size 57 i0 _ 4 40 Tryd.underlying42 hi hz0 hz1 hz2 rfl (by decide) _ ts.length (rowOf ts) rfl (((own_below hown hb2).alloc _).alloc _) _ 1 1 [.int .i64 3, .int .i64 (a : Int), .int .i64 0, .string (s.extract a (a + n))] rfl rfl (cells_new1 _ _ _ _) (one_cells _ _ _ _) hc3 hc4 (size2 _ _ (Nat.le_trans hbel.size hb2.size)) ?_; intro v' w3 hown3 hg3 _))
            go_roundw
            case rel =>
              refine ⟨f, a + n + k, _, hkle, by go_num, ?_, own_step hown3 (K := Lx.kindOf s[a]) (V := Lx.numOf s[a] ((s.data.toList.drop a).take n)) (by unfold Lx.kindOf; rw [HM.out]; rfl) (by unfold Lx.numOf; rw [HM.out]; rfl) (text_eq s a n), ?_, Lib.hid (rel_step HE.out hlt HN.out hnp (by unfold Lx.wide; rw [if_neg (by rw [HM.out]; decide), if_neg (by rw [HM.out]; decide)]) HK.out)⟩
              · simp; omega
              · exact (((hbel.trans (hb2.mono hbel.size)).alloc (Nat.le_trans hbel.size hb2.size) _).alloc (by simp; exact Nat.le_succ_of_le (Nat.le_trans hbel.size hb2.size)) _).grown hg3 (size2 _ _ (Nat.le_trans hbel.size hb2.size)) (fun j hj => (World.ownsRow.lt hown j hj).1)
            case measure => simp [intOf]; omega
        · have hcl := class_int s[a] 5 (by rw [hm]; rfl)
          have HC := Lib.hid hcl
          have HM := Lib.hid hm
          clear hcl hm
          · have hwn : n ≤ 16 := sym_short hlt HN.out (by rw [HM.out]; decide)
            have hc3 : ts.length + 1 ≤ maxLen := by unfold maxLen; omega
            have hc4 : (ts.length + 1) * 40 ≤ 140737488355328 := by omega
            go_wp2_with (first
              | (go_at_call 28; refine HEnd.out.mono ?_; rintro e w2 ⟨rfl, hb2⟩)
              | (go_at_call 29; refine (HC.out _).mono ?_; rintro e w' ⟨rfl, rfl⟩)
              | (go_at_call 27; refine (HSk.out _).mono ?_; rintro e w' ⟨rfl, rfl⟩)
              | (at_builtin; refine wpList_append_own _ rfl _ _ 42 rfl w.heap.size 57 i0 _ 4 40 Tryd.underlying42 hi hz0 hz1 hz2 rfl (by decide) _ ts.length (rowOf ts) rfl (((own_below hown hb2).alloc _).alloc _) _ 1 1 [.int .i64 3, .int .i64 (a : Int), .int .i64 0, .string (s.extract a (a + n))] rfl rfl (cells_new1 _ _ _ _) (one_cells _ _ _ _) hc3 hc4 (size2 _ _ (Nat.le_trans hbel.size hb2.size)) ?_; intro v' w3 hown3 hg3 _))
            go_roundw
            case rel =>
              refine ⟨f, a + n + k, _, hkle, by go_num, ?_, own_step hown3 (K := Lx.kindOf s[a]) (V := Lx.numOf s[a] ((s.data.toList.drop a).take n)) (by unfold Lx.kindOf; rw [HM.out]; rfl) (by unfold Lx.numOf; rw [HM.out]; rfl) (text_eq s a n), ?_, Lib.hid (rel_step HE.out hlt HN.out hnp (by unfold Lx.wide; rw [if_neg (by rw [HM.out]; decide), if_neg (by rw [HM.out]; decide)]) HK.out)⟩
              · simp; omega
              · exact (((hbel.trans (hb2.mono hbel.size)).alloc (Nat.le_trans hbel.size hb2.size) _).alloc (by simp; exact Nat.le_succ_of_le (Nat.le_trans hbel.size hb2.size)) _).grown hg3 (size2 _ _ (Nat.le_trans hbel.size hb2.size)) (fun j hj => (World.ownsRow.lt hown j hj).1)
            case measure => simp [intOf]; omega
        · have hcl := class_int s[a] 6 (by rw [hm]; rfl)
          have HC := Lib.hid hcl
          have HM := Lib.hid hm
          clear hcl hm
          · have hwn : n ≤ 16 := sym_short hlt HN.out (by rw [HM.out]; decide)
            have hc3 : ts.length + 1 ≤ maxLen := by unfold maxLen; omega
            have hc4 : (ts.length + 1) * 40 ≤ 140737488355328 := by omega
            go_wp2_with (first
              | (go_at_call 28; refine HEnd.out.mono ?_; rintro e w2 ⟨rfl, hb2⟩)
              | (go_at_call 29; refine (HC.out _).mono ?_; rintro e w' ⟨rfl, rfl⟩)
              | (go_at_call 27; refine (HSk.out _).mono ?_; rintro e w' ⟨rfl, rfl⟩)
              | (at_builtin; refine wpList_append_own _ rfl _ _ 42 rfl w.heap.size 57 i0 _ 4 40 Tryd.underlying42 hi hz0 hz1 hz2 rfl (by decide) _ ts.length (rowOf ts) rfl (((own_below hown hb2).alloc _).alloc _) _ 1 1 [.int .i64 3, .int .i64 (a : Int), .int .i64 0, .string (s.extract a (a + n))] rfl rfl (cells_new1 _ _ _ _) (one_cells _ _ _ _) hc3 hc4 (size2 _ _ (Nat.le_trans hbel.size hb2.size)) ?_; intro v' w3 hown3 hg3 _))
            go_roundw
            case rel =>
              refine ⟨f, a + n + k, _, hkle, by go_num, ?_, own_step hown3 (K := Lx.kindOf s[a]) (V := Lx.numOf s[a] ((s.data.toList.drop a).take n)) (by unfold Lx.kindOf; rw [HM.out]; rfl) (by unfold Lx.numOf; rw [HM.out]; rfl) (text_eq s a n), ?_, Lib.hid (rel_step HE.out hlt HN.out hnp (by unfold Lx.wide; rw [if_neg (by rw [HM.out]; decide), if_neg (by rw [HM.out]; decide)]) HK.out)⟩
              · simp; omega
              · exact (((hbel.trans (hb2.mono hbel.size)).alloc (Nat.le_trans hbel.size hb2.size) _).alloc (by simp; exact Nat.le_succ_of_le (Nat.le_trans hbel.size hb2.size)) _).grown hg3 (size2 _ _ (Nat.le_trans hbel.size hb2.size)) (fun j hj => (World.ownsRow.lt hown j hj).1)
            case measure => simp [intOf]; omega
    · go_wp2
      go_ret3
      obtain ⟨rfl, rfl, rfl⟩ := rel_end HE.out (by omega)
      exact ⟨_, rfl, hown, hbel⟩

end Go.Proofs.YtgmlghmlmfbfjaaDoor
