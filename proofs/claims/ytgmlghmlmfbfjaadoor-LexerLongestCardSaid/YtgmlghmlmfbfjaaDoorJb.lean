/- lexer.Tokens. -/
import Derived.Test.YtgmlghmlmfbfjaaDoorJa
import Derived.Test.YtgmlghmlmfbfjaaDoorAt
import Derived.Deep.RegionHeld3
import Derived.Maps.AppendAt
namespace Go.Proofs.YtgmlghmlmfbfjaaDoor
open Go Go.RowKit Go.Shelf
attribute [local go_sem] Oper.semAt_some

set_option maxRecDepth 100000 in
set_option maxHeartbeats 1000000 in
theorem parts_in (n : Nat) (s : ByteArray) (w : World) :
    CallsIn Fence.wide n Tryd.prog 23 #[.string s] w fun e w' => e = .returned (.func (.func 31) #[] #[.pointer (some ⟨w.heap.size, 0, none⟩)]) ∧ w.alloc (.cells #[.string s] 9) = w' := by
  refine callsIn_of_wp Tryd.func23 rfl trivial ?_ rfl
  simp only [Tryd.ntmps23, List.size_toArray, List.length_cons, List.length_nil, Nat.reduceAdd, Nat.reduceSub, Array.replicate_succ, Array.replicate_zero, List.push_toArray, List.append_toArray, List.nil_append, List.cons_append]
  gi_wp2
  go_ret
  exact ⟨rfl, rfl⟩
theorem parts_stops (n : Nat) (h1 : 1 ≤ n) (Bn BO : Nat) (s : ByteArray) (hs : s.size ≤ 8192) (T : List Lx.Tok) (A E k0 : Nat)
    (hk0 : Lx.skipL false s.data.toList = k0) (hT : Lx.lexGo (s.data.toList.length + 1) k0 (s.data.toList.drop k0) = (T, A, E)) (w : World) (hBn : Boxed w Bn 9 (.string s)) (hne : Bn ≠ BO) :
    SeqStopsV Fence.wide n Tryd.prog 31 #[.pointer (some ⟨Bn, 0, none⟩)] GTok.encs (fun x => x.val.Fits) (OutOk BO) (KeepsRow BO) (fun ys => ys.map (·.val.tok) = T ∧ A = 0 ∧ E = 0) (fun pre => StopAt pre A E) s.size w :=
  fun l J Jx W hW hJ _ hQ hY h0 => parts1_in n h1 l Bn BO s hs T A E k0 hk0 hT J Jx W hJ hQ hY ((hW.block Bn hBn.lt).trans hBn) hne h0

/-- append, and where the new row lies; within a round. -/
theorem wpListIn_append_at {F : Fence} {n : Nat} {P : Program} (w : World) {ops : Array Oper} {rest : List Oper} {o : Oper} {a : Act} {Q : Exit → Act → World → Prop}
    (hg : o.guard = none) (s x : Operand) (t : TypeId) (hop : o.op = Op.call { callee := Callee.builtin Builtin.append, args := #[s, x], argTypes := #[t, t] })
    (base : Nat) (e : TypeId) (i : TypeInfo) (z : Value) (size bytes : Nat) (h1 : P.underlying t = some (.slice e)) (h2 : P.info? e = some i) (h3 : i.zero = some z) (h4 : i.size = size) (h5 : i.bytes = bytes) (h6 : z.cells.size = size) (h7 : 0 < size)
    (v : Value) (k : Nat) (xs : List Value) (hs : a.eval s = v) (hown : w.ownsRow base e size v k xs) (ad : Addr) (m c : Nat) (news : List Value) (hx : a.eval x = .slice (some ad) m c) (hn : news.length = m * size)
    (hc : ∀ j u, news[j]? = some u → w.cell? (ad.add j) = some u) (h1c : ∀ u ∈ news, u.oneCell' = true) (b1 : k + m ≤ maxLen) (b2 : (k + m) * bytes ≤ 140737488355328) (b3 : base ≤ w.heap.size)
    (hK : ∀ v' w', w'.ownsRow base e size v' (k + m) (xs ++ news) → w.grownBy w' v.ownBlock → (v'.ownBlock = v.ownBlock ∨ v'.ownBlock = some w.heap.size) → wpListIn F n P ops Q rest (a.put o.dst v') w') :
    wpListIn F n P ops Q (o :: rest) a w := by
  refine wpListIn_plain hg fun K hK' => ?_
  obtain ⟨v', w', hrun, r1, r2, _, r4⟩ := run_append_own_at (P := P) w base t o.type e i z size bytes h1 h2 h3 h4 h5 h6 h7 v k xs hown ad m c news hn hc h1c b1 b2 b3
  unfold Oper.wpIn
  refine ⟨?_, ?_⟩
  · simp [Oper.about, hop, resolve, Target.leads, Sem.run_pure]
  · rw [Oper.semAt_plain F _ _ (by rw [hop]; intro c hc'; cases hc')]
    simp [execOp, hop, resolve, invoke, builtin, hs, hx, hrun, Result.andThen]
    exact hK' _ _ (hK v' w' r1 r2 r4)

/-- What the assignment to the loop's variables leaves: every block of cells. -/
structure CellsKept (A B : World) : Prop where
  size : A.heap.size ≤ B.heap.size
  same : ∀ (k : Nat) (o : Obj), A.heap[k]? = some o → o.isCells = true → B.heap[k]? = some o
theorem CellsKept.of_below {A B : World} (h : Below A.heap.size A B) : CellsKept A B := ⟨h.size, fun k o hk _ => (h.block k (Array.getElem?_eq_some_iff.1 hk).1).trans hk⟩
theorem CellsKept.grown {A X Y : World} (h : CellsKept A X) {row : Option Nat} (hg : X.grownBy Y row) (hr : ∀ r, row = some r → ∃ o : Obj, X.heap[r]? = some o ∧ o.isCells = false) : CellsKept A Y :=
  ⟨Nat.le_trans h.size hg.size, fun k o hk ho => (grownBy_keeps_cells hg hr (h.same k o hk ho) ho).trans (h.same k o hk ho)⟩
/-- A round's word to the iterator: from the world before the assignment (W0) on; Bx: the round's own variable. -/
theorem keepsRow_round {BO Bx : Nat} {W0 W W2 w1 W' : World} {v v' : Value} {tmp : Obj} (hk : CellsKept W0 W) (hb0 : ∃ u, Boxed W0 BO 33 u ∧ ∀ k, u.ownBlock = some k → k < W0.heap.size) (hb : Boxed W BO 33 v) (hBx : W0.heap.size ≤ Bx)
    (hW2s : W.heap.size ≤ W2.heap.size) (hW2 : ∀ k, k < W.heap.size → k ≠ Bx → W2.heap[k]? = W.heap[k]?)
    (hg : (W2.alloc tmp).grownBy w1 v.ownBlock) (hat : v'.ownBlock = v.ownBlock ∨ v'.ownBlock = some (W2.alloc tmp).heap.size) (hW' : W' = w1.setCell ⟨BO, 0, none⟩ v') (hB' : Boxed W' BO 33 v') : KeepsRow BO W0 W' := by
  obtain ⟨u, hu, _⟩ := hb0
  have hu' := hk.same BO _ hu rfl
  have huv : u = v := by
    have := hu'.symm.trans hb
    simp at this
    exact this
  subst huv
  have hown0 : ownOf W0 BO = u.ownBlock := by unfold ownOf; rw [hu.cell]
  have hown' : ownOf W' BO = v'.ownBlock := by unfold ownOf; rw [hB'.cell]
  have hs1 : W2.heap.size + 1 ≤ w1.heap.size := by have := hg.size; simp at this; exact this
  refine ⟨?_, fun k cs t fr hkk hne hno => ?_, fun k hkk => ?_⟩
  · rw [hW']; simp [World.setCell]; have := hk.size; omega
  · have hlt := (Array.getElem?_eq_some_iff.1 hkk).1
    have h1 := hk.same k _ hkk rfl
    have hltW : k < W.heap.size := Nat.lt_of_lt_of_le hlt hk.size
    have h2 := (hW2 k hltW (by omega)).trans h1
    have h3 : (W2.alloc tmp).heap[k]? = some (.cells cs t fr) := (Below.heap_alloc _ _ _ (by omega)).trans h2
    have h4 := (hg.block k (by simp; omega) (fun e => hno (by rw [hown0]; exact e.symm))).trans h3
    rw [hW']
    exact (Below.heap_setCell _ _ _ _ hne).trans h4
  · rw [hown'] at hkk
    rw [hown0]
    rcases hat with e | e
    · left; rw [← e]; exact hkk
    · right
      rw [e] at hkk
      simp at hkk
      have := hk.size
      omega

/-- What Tokens hands back. -/
def TokensPost (w : World) (T : List Lx.Tok) (A E : Nat) (e : Ending) (w' : World) : Prop :=
  ∃ v, e = .returned (.tuple #[v, .int .i64 (A : Int), .int .i64 (E : Int)]) ∧ w'.ownsRow w.heap.size 38 4 v (outOf T E).length (rowOf (outOf T E)) ∧ Below w.heap.size w w'

theorem row_before {BO Bx : Nat} {W0 W : World} {v : Value} (hk : CellsKept W0 W) (hb0 : ∃ u, Boxed W0 BO 33 u ∧ ∀ k, u.ownBlock = some k → k < W0.heap.size) (hb : Boxed W BO 33 v) (hBx : W0.heap.size ≤ Bx) : v.ownBlock ≠ some Bx := by
  obtain ⟨u, hu, hl⟩ := hb0
  have hu' := hk.same BO _ hu rfl
  have huv : u = v := by
    have := hu'.symm.trans hb
    simp at this
    exact this
  subst huv
  intro e
  have := hl Bx e
  omega
/-- The round's own world before the append: only its own variable's block Bx has turned. -/
structure Mid (Bx : Nat) (W W2 : World) : Prop where
  size : W.heap.size ≤ W2.heap.size
  os : W2.os = W.os
  tape : W2.tape = W.tape
  output : W2.output = W.output
  block : ∀ k, k < W.heap.size → k ≠ Bx → W2.heap[k]? = W.heap[k]?
  keeps : KeepsOthers W W2
theorem Mid.refl (Bx : Nat) (W : World) : Mid Bx W W := ⟨Nat.le_refl _, rfl, rfl, rfl, fun _ _ _ => rfl, KeepsOthers.refl W⟩
theorem Mid.box {Bx : Nat} {W W2 : World} (h : Mid Bx W W2) {B : Nat} {t : TypeId} {v : Value} (hb : Boxed W B t v) (hne : B ≠ Bx) : Boxed W2 B t v := (h.block B hb.lt hne).trans hb
theorem Mid.grown {Bx : Nat} {W W2 : World} (h : Mid Bx W W2) : W.grownBy W2 (some Bx) := ⟨h.os, h.tape, h.output, h.size, fun k hk hne => h.block k hk (fun e => hne (by rw [e]))⟩
theorem Mid.set {Bx : Nat} {W Wa : World} (hb : Below W.heap.size W Wa) (off : Nat) (v : Value) : Mid Bx W (Wa.setCell ⟨Bx, off, none⟩ v) := by
  refine ⟨?_, hb.os, hb.tape, hb.output, fun k hk hne => (Below.heap_setCell Wa ⟨Bx, off, none⟩ v k hne).trans (hb.block k hk), ?_⟩
  · simp [World.setCell]; exact hb.size
  · exact KeepsOthers.trans ⟨hb.size, fun k o hk _ => (hb.block k (Array.getElem?_eq_some_iff.1 hk).1).trans hk⟩ (KeepsOthers.setCell _ _ _)
theorem size_set (w : World) (p : Addr) (v : Value) : (w.setCell p v).heap.size = w.heap.size := by simp [World.setCell]
theorem cells_newAt {w : World} {b : Nat} (hb : w.heap.size = b) (cs : List Value) (t : TypeId) : ∀ j u, cs[j]? = some u → (w.alloc (.cells cs.toArray t)).cell? ((⟨b, 0, none⟩ : Addr).add j) = some u := by
  subst hb; exact cells_new w cs t
theorem bytes_ok (k : Nat) (h : k ≤ 8192) : (k + 1) * 40 ≤ 140737488355328 := by omega
theorem mid_size {w W W2 : World} {Bx : Nat} (hB : Below w.heap.size w W) (hm : Mid Bx W W2) {o : Obj} : w.heap.size ≤ (W2.alloc o).heap.size := by have h1 := hB.size; have h2 := hm.size; simp; omega
theorem bcell {W w1 : World} (hb : Below W.heap.size W w1) : (∀ b o, b < W.heap.size → w1.cell? ⟨b, o, none⟩ = W.cell? ⟨b, o, none⟩) ∧ (∀ b o, b < W.heap.size → w1.frozen? ⟨b, o, none⟩ = W.frozen? ⟨b, o, none⟩) :=
  ⟨fun b o h => hb.cell (p := ⟨b, o, none⟩) h, fun b o h => hb.frozen (p := ⟨b, o, none⟩) h⟩
/-- Between two rounds. -/
def TI (w : World) (b2 b3 b4 b5 : Nat) (pre : List GTok) (W : World) : Prop :=
  (∃ v, Boxed W b5 33 v ∧ W.ownsRow w.heap.size 38 4 v (pre.map (·.val.tok)).length (rowOf (pre.map (·.val.tok))) ∧ True) ∧ (Boxed W b2 33 (.slice none 0 0) ∧ (Boxed W b3 3 (.int .i64 0) ∧ (Boxed W b4 34 (.int .i64 0) ∧ Below w.heap.size w W)))
/-- A round has left by 'return'. -/
def TX (w : World) (b2 b3 b4 : Nat) (c : Code) (pre : List GTok) (W : World) : Prop :=
  (∃ (init : List GTok) (x : GTok) (er : Nat), c = .ret ∧ pre = init ++ [x] ∧ ((x.val.text = [] ∧ er = 2) ∨ (x.val.text ≠ [] ∧ ¬ x.val.Fits ∧ er = 4)) ∧ (Boxed W b2 33 (.slice none 0 0) ∧ Boxed W b3 3 (.int .i64 (x.val.at_ : Int)) ∧ Boxed W b4 34 (.int .i64 (er : Int)))) ∧ Below w.heap.size w W
/-- Behind the append and the store of the variable. -/
theorem round_close {w W0 W1 W W2 w1 : World} {b2 b3 b4 b5 Bx : Nat} {pre : List GTok} {x : GTok} {v v' : Value} {tmp : Obj} {num : Int} {tx : ByteArray}
    (hb2 : w.heap.size ≤ b2) (h23 : b2 < b3) (h34 : b3 < b4) (h45 : b4 < b5) (g1 : W1.heap.size ≤ Bx) (g2 : b5 < Bx)
    (hv : Boxed W b5 33 v) (hrow : W.ownsRow w.heap.size 38 4 v (pre.map (·.val.tok)).length (rowOf (pre.map (·.val.tok))))
    (q2 : Boxed W b2 33 (.slice none 0 0)) (q3 : Boxed W b3 3 (.int .i64 0)) (q4 : Boxed W b4 34 (.int .i64 0)) (hB : Below w.heap.size w W)
    (g3 : ∃ u, Boxed W1 b5 33 u ∧ ∀ k, u.ownBlock = some k → k < W1.heap.size) (g4 : CellsKept W1 W) (hm : Mid Bx W W2)
    (hown0 : w1.ownsRow w.heap.size 38 4 v' (pre.length + 1) (rowOf (pre.map (·.val.tok)) ++ [.int .i64 (x.val.kind : Int), .int .i64 (x.val.at_ : Int), .int .i64 num, .string tx]))
    (htx : (⟨x.val.text.toArray⟩ : ByteArray) = tx) (hnum : (x.val.tok.num : Int) = num)
    (hgrow : (W2.alloc tmp).grownBy w1 v.ownBlock) (hat : v'.ownBlock = v.ownBlock ∨ v'.ownBlock = some (W2.alloc tmp).heap.size) (hfit : x.val.Fits) :
    KeepsFrom W0.heap.size W (w1.setCell ⟨b5, 0, none⟩ v') ∧ KeepsRow b5 W1 (w1.setCell ⟨b5, 0, none⟩ v') ∧ x.val.Fits ∧ TI w b2 b3 b4 b5 (pre ++ [x]) (w1.setCell ⟨b5, 0, none⟩ v') := by
  subst htx hnum
  have hown : w1.ownsRow w.heap.size 38 4 v' ((pre.map (·.val.tok)).length + 1) (rowOf (pre.map (·.val.tok)) ++ tokCells x.val.tok) := by rw [List.length_map]; exact hown0
  have hnr := row_before g4 g3 hv g1
  have hv2 : Boxed W2 b5 33 v := hm.box hv (by omega)
  have hrow2 : W2.ownsRow w.heap.size 38 4 v (pre.map (·.val.tok)).length (rowOf (pre.map (·.val.tok))) := hrow.kept hm.grown (.inr hnr)
  have hsz2 : w.heap.size ≤ W2.heap.size := Nat.le_trans hB.size hm.size
  obtain ⟨_, hv', hown', hk', hb'⟩ := hv2.appended (by decide) hrow2 hsz2 (by omega : w.heap.size ≤ b5) hown hgrow
  have boxes : ∀ {B : Nat} {t : TypeId} {u : Value}, Boxed W B t u → B < b5 → t ≠ 38 → Boxed (w1.setCell ⟨b5, 0, none⟩ v') B t u := fun {B t u} hbx hlt ht =>
    (((hm.box hbx (by omega)).alloc tmp).kept hgrow ((hm.box hbx (by omega)).not_row ht hrow2)).other (by omega) v'
  refine ⟨(hm.keeps.trans hk').from _, keepsRow_round g4 g3 hv g1 hm.size hm.block hgrow hat rfl hv', hfit, ⟨v', hv', ?_, trivial⟩, boxes q2 (by omega) (by decide), boxes q3 (by omega) (by decide), boxes q4 h45 (by decide), ?_⟩
  · rw [List.map_append, List.map_cons, List.map_nil, rowOf_snoc, List.length_append]
    exact hown'
  · exact (hB.grown hm.grown hB.size (fun k e => by cases e; omega)).trans hb'

set_option maxRecDepth 100000 in
set_option maxHeartbeats 8000000 in
theorem tokens_in (n : Nat) (hn : 6 ≤ n) (s : ByteArray) (hs : s.size ≤ 8192) (T : List Lx.Tok) (A E k0 : Nat)
    (hk0 : Lx.skipL false s.data.toList = k0) (hT : Lx.lexGo (s.data.toList.length + 1) k0 (s.data.toList.drop k0) = (T, A, E)) (w : World) (hR : RangeOk w) :
    CallsIn Fence.wide n Tryd.prog 16 #[.string s] w (TokensPost w T A E) := by
  have h1 : 1 ≤ n := by omega
  obtain ⟨i0, hi, hz0, hz1, hz2⟩ := info_parts Tryd.info38
  refine callsIn_of_wp_marks Tryd.func16 rfl trivial ?_ rfl
  simp only [Tryd.ntmps16, List.size_toArray, List.length_cons, List.length_nil, Nat.reduceAdd, Nat.reduceSub, Array.replicate_succ, Array.replicate_zero, List.push_toArray, List.append_toArray, List.nil_append, List.cons_append]
  have HK0 := Lib.hid hk0
  have HT := Lib.hid hT
  clear hk0 hT
  gi_wp2_with (refine ⟨trivial, ?_⟩; gi_at_call 23; refine (parts_in _ _ _).mono ?_; rintro e w' ⟨rfl, rfl⟩)
  obtain ⟨W0, hW0⟩ : ∃ W0, ((((w.alloc (.cells #[.slice none 0 0] 33)).alloc (.cells #[.int .i64 0] 3)).alloc (.cells #[.int .i64 0] 34)).alloc (.cells #[.slice none 0 0] 33)).alloc (.cells #[.string s] 9) = W0 := ⟨_, rfl⟩
  have x2 := ((((Boxed.new w 33 (.slice none 0 0)).alloc (.cells #[.int .i64 0] 3)).alloc (.cells #[.int .i64 0] 34)).alloc (.cells #[.slice none 0 0] 33)).alloc (.cells #[.string s] 9)
  have x3 := (((Boxed.new (w.alloc (.cells #[.slice none 0 0] 33)) 3 (.int .i64 0)).alloc (.cells #[.int .i64 0] 34)).alloc (.cells #[.slice none 0 0] 33)).alloc (.cells #[.string s] 9)
  have x4 := ((Boxed.new ((w.alloc (.cells #[.slice none 0 0] 33)).alloc (.cells #[.int .i64 0] 3)) 34 (.int .i64 0)).alloc (.cells #[.slice none 0 0] 33)).alloc (.cells #[.string s] 9)
  have x5 := (Boxed.new (((w.alloc (.cells #[.slice none 0 0] 33)).alloc (.cells #[.int .i64 0] 3)).alloc (.cells #[.int .i64 0] 34)) 33 (.slice none 0 0)).alloc (.cells #[.string s] 9)
  have x6 := Boxed.new ((((w.alloc (.cells #[.slice none 0 0] 33)).alloc (.cells #[.int .i64 0] 3)).alloc (.cells #[.int .i64 0] 34)).alloc (.cells #[.slice none 0 0] 33)) 9 (.string s)
  have hB0 : Below w.heap.size w W0 := by
    rw [← hW0]
    exact (((((Below.refl _ w).alloc (Nat.le_refl _) _).alloc (by simp) _).alloc (by simp; omega) _).alloc (by simp; omega) _).alloc (by simp; omega) _
  have hsz : W0.heap.size = w.heap.size + 5 := by rw [← hW0]; simp
  rw [hW0] at x2 x3 x4 x5 x6 ⊢
  simp only [World.size_alloc] at x3 x4 x5 x6
  obtain ⟨b6, e6⟩ : ∃ b6, w.heap.size + 1 + 1 + 1 + 1 = b6 := ⟨_, rfl⟩
  have l6 : b6 = w.heap.size + 4 := by omega
  rw [e6] at x6 ⊢
  obtain ⟨b5, e5⟩ : ∃ b5, w.heap.size + 1 + 1 + 1 = b5 := ⟨_, rfl⟩
  have l5 : b5 = w.heap.size + 3 := by omega
  rw [e5] at x5 ⊢
  obtain ⟨b4, e4⟩ : ∃ b4, w.heap.size + 1 + 1 = b4 := ⟨_, rfl⟩
  have l4 : b4 = w.heap.size + 2 := by omega
  rw [e4] at x4 ⊢
  obtain ⟨b3, e3⟩ : ∃ b3, w.heap.size + 1 = b3 := ⟨_, rfl⟩
  have l3 : b3 = w.heap.size + 1 := by omega
  rw [e3] at x3 ⊢
  obtain ⟨b2, e2⟩ : ∃ b2, b2 = w.heap.size := ⟨_, rfl⟩
  have l2 : w.heap.size ≤ b2 := by omega
  have l3' : b2 < b3 := by omega
  have l4' : b3 < b4 := by omega
  have l5' : b4 < b5 := by omega
  have l6' : b5 < b6 := by omega
  have l7' : b6 < W0.heap.size := by omega
  rw [show (Value.pointer (some { block := w.heap.size, off := 0 })) = .pointer (some ⟨b2, 0, none⟩) from by rw [e2]]
  rw [← e2] at x2
  clear hW0 e6 e5 e4 e3 l6 l5 l4 l3 hsz
  have HE2 := Lib.hid e2
  clear e2
  refine wpIn_rangeFunc_ownV rfl h1 (gf := 31) (lb := #[.pointer (some ⟨b6, 0, none⟩)]) rfl trivial (enters_of Tryd.func31 (by kernel_rfl) rfl)
    (parts_stops (n - 1) (by omega) b6 b5 s hs T A E k0 HK0.out HT.out W0 x6 (by omega)) (fun h k => h.trans k) (fun W l o o' hl h hc _ => keepsRow_putObj W l o o' (by omega) h hc) (Below.refl _ _) (fun _ => rfl)
    (TI w b2 b3 b4 b5) (TX w b2 b3 b4)
    ?hI ?hIx ?hIQ ?h0
    (fun W1 x a' W => ∃ Bx, W1.heap.size ≤ Bx ∧ b5 < Bx ∧ (∃ u, Boxed W1 b5 33 u ∧ ∀ k, u.ownBlock = some k → k < W1.heap.size) ∧ CellsKept W1 W ∧ W.heap[Bx]? = some (.cells #[.int .i64 (x.val.kind : Int), .int .i64 (x.val.at_ : Int), .int .i64 0, .string ⟨x.val.text.toArray⟩] 38 (0, 0)) ∧
      a' = { tmps := #[.string s, undef, .pointer (some ⟨b2, 0, none⟩), .pointer (some ⟨b3, 0, none⟩), .pointer (some ⟨b4, 0, none⟩), .pointer (some ⟨b5, 0, none⟩), .int .i64 (x.val.at_ : Int), .pointer (some ⟨Bx, 0, none⟩), undef, undef, .string s, .int .i64 (s.size : Int), .bool (decide (8192 < (s.size : Int))), .string s,
        .func (.func 31) #[] #[.pointer (some ⟨b6, 0, none⟩)], .int .i64 (x.val.at_ : Int), .agg #[.int .i64 (x.val.kind : Int), .int .i64 (x.val.at_ : Int), .int .i64 0, .string ⟨x.val.text.toArray⟩], undef, undef, undef, undef, undef, undef, undef, undef, undef, undef, undef, undef, undef, undef, undef, undef, undef, undef, undef, undef, undef, undef, undef, undef, undef, undef, undef, undef, undef, undef, undef, undef, undef, undef, undef, undef, undef, undef, undef, undef], defers := [] })
    ?hAx ?assign ?body ?done ?stop
  case hI =>
    have h := OwnFrom.and (Own.from (holdsRow_own w.heap.size b5 33 38 4 (fun pre : List GTok => (pre.map (·.val.tok)).length) (fun pre => rowOf (pre.map (·.val.tok))) (fun _ _ => True)) _)
      (OwnFrom.and (Own.from (boxed_own b2 33 (fun _ => Value.slice none 0 0)) _) (OwnFrom.and (Own.from (boxed_own b3 3 (fun _ => Value.int .i64 0)) _) (OwnFrom.and (Own.from (boxed_own b4 34 (fun _ => Value.int .i64 0)) _) (ownFrom_below (n₀ := w.heap.size) (w₀ := w) (Nat.le_refl _) (B := W0.heap.size) (by omega)))))
    exact h
  case hIx =>
    rintro c pre X Y row ⟨⟨init, x, er, h1, h2, h3, q2, q3, q4⟩, hbx⟩ hg hr0
    have hr : ∀ r, row = some r → ∃ o : Obj, X.heap[r]? = some o ∧ o.isCells = false := fun r e => (hr0 r e).2
    refine ⟨?_, hbx.grown hg hbx.size (fun k hk => by have := (hr0 k hk).1; omega)⟩
    exact ⟨init, x, er, h1, h2, h3, boxed_own b2 33 (fun _ : Unit => Value.slice none 0 0) () X Y row q2 hg hr, boxed_own b3 3 (fun _ : Unit => Value.int .i64 (x.val.at_ : Int)) () X Y row q3 hg hr, boxed_own b4 34 (fun _ : Unit => Value.int .i64 (er : Int)) () X Y row q4 hg hr⟩
  case hIQ =>
    rintro pre W ⟨⟨v, hv, hrow, _⟩, _⟩
    refine ⟨v, hv, fun k hk => ?_⟩
    rcases hrow.2 with ⟨rfl, _⟩ | ⟨g, cap, cur, rfl, _, hg, _⟩
    · simp [Value.ownBlock] at hk
    · simp [Value.ownBlock] at hk; subst hk; exact ⟨_, hg⟩
  case h0 => exact ⟨⟨_, x5, World.ownsRow_nil _ _ _ _, trivial⟩, x2, x3, x4, hB0⟩
  case hAx =>
    rintro W1 x a' _ X Y row ⟨Bx, g1, g2, g3, g4, g5, g6⟩ hg hr
    have hr' : ∀ r, row = some r → ∃ o : Obj, X.heap[r]? = some o ∧ o.isCells = false := fun r e => (hr r e).2
    exact ⟨Bx, g1, g2, g3, g4.grown hg hr', (grownBy_keeps_cells hg hr' g5 rfl).trans g5, g6⟩
  case assign =>
    rintro l pre x W K ⟨⟨v, hv, hrow, _⟩, q2, q3, q4, hB⟩ hK
    simp only [GTok.encs, tokAgg]
    gi_wp2
    refine hK _ _ ((KeepsOthers.alloc _ _).from _) ⟨⟨v, hv.alloc _, hrow.alloc _, trivial⟩, q2.alloc _, q3.alloc _, q4.alloc _, hB.alloc hB.size _⟩
      ⟨W.heap.size, Nat.le_refl _, hv.lt, ⟨v, hv, fun k hk => (hrow.lt k hk).2⟩, CellsKept.of_below ((Below.refl _ _).alloc (Nat.le_refl _) _), World.alloc_heap_new W _, rfl⟩
  case body =>
    rintro l pre x a' W1 W hl hr ⟨⟨v, hv, hrow, _⟩, q2, q3, q4, hB⟩ ⟨Bx, g1, g2, g3, g4, g5, rfl⟩ hlt
    obtain ⟨kd, hkd⟩ : ∃ kd, x.val.kind = kd := ⟨_, rfl⟩
    obtain ⟨at_, hat⟩ : ∃ at_, x.val.at_ = at_ := ⟨_, rfl⟩
    obtain ⟨tx, htx⟩ : ∃ tx : ByteArray, ⟨x.val.text.toArray⟩ = tx := ⟨_, rfl⟩
    obtain ⟨gk, ga, gt, gd⟩ := x.good
    have c0 : W.cell? ⟨Bx, 0, none⟩ = some (.int .i64 (x.val.kind : Int)) := by rw [cell_of_row W Bx 0 _ 38 (0, 0) g5]; rfl
    have c1 : W.cell? ⟨Bx, 1, none⟩ = some (.int .i64 (x.val.at_ : Int)) := by rw [cell_of_row W Bx 1 _ 38 (0, 0) g5]; rfl
    have c2 : W.cell? ⟨Bx, 2, none⟩ = some (.int .i64 0) := by rw [cell_of_row W Bx 2 _ 38 (0, 0) g5]; rfl
    have c3 : W.cell? ⟨Bx, 3, none⟩ = some (.string ⟨x.val.text.toArray⟩) := by rw [cell_of_row W Bx 3 _ 38 (0, 0) g5]; rfl
    have f2 : W.frozen? ⟨Bx, 2, none⟩ = false := by simp [World.frozen?, g5]
    have cq2 := q2.cell
    have cq3 := q3.cell
    have cq4 := q4.cell
    have cv := hv.cell
    have fq2 := q2.frozen
    have fq3 := q3.frozen
    have fq4 := q4.frozen
    have fv := hv.frozen
    have hBxW := (Array.getElem?_eq_some_iff.1 g5).1
    have n2 : b2 ≠ Bx := by omega
    have n3 : b3 ≠ Bx := by omega
    have n4 : b4 ≠ Bx := by omega
    have n5 : b5 ≠ Bx := by omega
    have G5 := Lib.hid g5
    have G4 := Lib.hid g4
    have G3 := Lib.hid g3
    have HV := Lib.hid hv
    have HROW := Lib.hid hrow
    have Q2 := Lib.hid q2
    have Q3 := Lib.hid q3
    have Q4 := Lib.hid q4
    clear g5 g4 g3 hv hrow q2 q3 q4
    rw [hkd] at c0 gk
    rw [hat] at c1 ga
    rw [htx] at c3
    rw [hkd, hat, htx]
    have HKD := Lib.hid hkd
    have HAT := Lib.hid hat
    have HTX := Lib.hid htx
    have GD := Lib.hid gd
    clear gd hkd hat htx
    have htl : tx.data.toList = x.val.text := by rw [← HTX.out]
    have hts : tx.size = x.val.text.length := by rw [← htl]; simp
    have HTL := Lib.hid htl
    have HTS := Lib.hid hts
    have htle : tx.size ≤ 8192 := by omega
    clear htl hts
    have err : ∀ (Wa : World), Below W.heap.size W Wa → 0 ≤ 0 → ∀ (er : Nat) (Wf : World), ((x.val.text = [] ∧ er = 2) ∨ (x.val.text ≠ [] ∧ ¬ x.val.Fits ∧ er = 4)) → Wf = ((Wa.setCell ⟨b2, 0, none⟩ (.slice none 0 0)).setCell ⟨b3, 0, none⟩ (.int .i64 (at_ : Int))).setCell ⟨b4, 0, none⟩ (.int .i64 (er : Int)) →
      KeepsFrom W0.heap.size W Wf ∧ TX w b2 b3 b4 .ret (pre ++ [x]) Wf := by
      rintro Wa hba _ er Wf hd rfl
      have r2 : Boxed Wa b2 33 (.slice none 0 0) := (hba.block b2 Q2.out.lt).trans Q2.out
      have r3 : Boxed Wa b3 3 (.int .i64 0) := (hba.block b3 Q3.out.lt).trans Q3.out
      have r4 : Boxed Wa b4 34 (.int .i64 0) := (hba.block b4 Q4.out.lt).trans Q4.out
      have hBa : Below w.heap.size w Wa := hB.trans (hba.mono hB.size)
      have hka : KeepsOthers W Wa := ⟨hba.size, fun k o hk _ => (hba.block k (Array.getElem?_eq_some_iff.1 hk).1).trans hk⟩
      refine ⟨((hka.trans (KeepsOthers.setCell _ _ _)).trans (KeepsOthers.setCell _ _ _) |>.trans (KeepsOthers.setCell _ _ _)).from _, ⟨pre, x, er, rfl, rfl, hd, ?_, ?_, ?_⟩, ?_⟩
      · exact ((r2.set _).other (by omega) _).other (by omega) _
      · rw [HAT.out]; exact ((r3.other (by omega) _).set _).other (by omega) _
      · exact ((r4.other (by omega) _).other (by omega) _).set _
      · exact ((hBa.setCell (p := ⟨b2, 0, none⟩) (by simp; omega) _).setCell (p := ⟨b3, 0, none⟩) (by simp; omega) _).setCell (p := ⟨b4, 0, none⟩) (by simp; omega) _
    have ERR := Lib.hid err
    clear err
    by_cases hte : x.val.text = []
    · have he : tx.toList.isEmpty = true := by rw [ByteArray.toList_eq, HTL.out, hte]; rfl
      have HTE := Lib.hid hte
      clear hte
      gi_wp2
      exact ERR.out W (Below.refl _ _) (by omega) 2 _ (.inl ⟨HTE.out, rfl⟩) rfl
    · have he : tx.toList.isEmpty = false := by
        rw [ByteArray.toList_eq, HTL.out]
        cases h : x.val.text with
        | nil => exact absurd h hte
        | cons => rfl
      have HTE := Lib.hid hte
      clear hte
      have hpl : (pre.map (·.val.tok)).length = pre.length := by simp
      have hc3 : (pre.map (·.val.tok)).length + 1 ≤ maxLen := by unfold maxLen; omega
      have hc4 : (pre.map (·.val.tok)).length ≤ 8192 := by omega
      have hHPL := Lib.hid hpl
      clear hpl
      have hws : w.heap.size ≤ (W.alloc (.cells #[.int .i64 (kd : Int), .int .i64 (at_ : Int), .int .i64 0, .string tx] 38)).heap.size := by have := hB.size; simp; omega
      have h1' : 1 ≤ n - 1 - 1 := by omega
      have num0 : kd ≠ 2 → ((x.val.tok.num : Nat) : Int) = 0 := fun h => by unfold RTok.tok; simp only; rw [if_neg (by rw [HKD.out]; exact h)]; rfl
      have NUM0 := Lib.hid num0
      have hnr := row_before G4.out G3.out HV.out g1
      have HNR := Lib.hid hnr
      clear num0 hnr
      by_cases hk1 : kd ≤ 1
      · have hk2 : ((kd : Int) == 2) = false := by simp only [beq_eq_false_iff_ne]; omega
        by_cases hw : 16 < tx.size
        · have hnf : ¬ x.val.Fits := fun hf => by have := hf.2.1 (by rw [HKD.out]; omega); rw [← HTS.out] at this; omega
          have HNF := Lib.hid hnf
          clear hnf
          gi_wp2
          exact ERR.out W (Below.refl _ _) (by omega) 4 _ (.inr ⟨HTE.out, HNF.out, rfl⟩) rfl
        · have hw' : tx.size ≤ 16 := by omega
          have hfit : x.val.Fits := ⟨HTE.out, fun _ => by rw [← HTS.out]; exact hw', fun h => by rw [HKD.out] at h; omega⟩
          have HFit := Lib.hid hfit
          clear hfit
          gi_wp2_with (gi_at_builtin; refine wpListIn_append_at _ rfl _ _ 33 rfl w.heap.size 38 i0 _ 4 40 Tryd.underlying33 hi hz0 hz1 hz2 rfl (by decide) _ (pre.map (·.val.tok)).length (rowOf (pre.map (·.val.tok))) rfl (HROW.out.alloc _) _ 1 1 [.int .i64 (kd : Int), .int .i64 (at_ : Int), .int .i64 0, .string tx] rfl rfl (cells_new _ _ _) (one_cells _ _ _ _) hc3 (bytes_ok _ hc4) hws ?_; intro v' w1 hown' hgrow hat'; obtain ⟨g', cap', rfl⟩ := ownsRow_succ hown'; have hv1 := (HV.out.alloc _).kept hgrow (HV.out.not_row (by decide) HROW.out); have cv1 := hv1.cell; have fv1 := hv1.frozen)
          have hown2 := hown'
          rw [← HKD.out, ← HAT.out, List.length_map] at hown2
          exact round_close l2 l3' l4' l5' g1 g2 HV.out HROW.out Q2.out Q3.out Q4.out hB G3.out G4.out (Mid.refl _ _) hown2 HTX.out (NUM0.out (by omega)) hgrow hat' HFit.out
      · have hk1' : 2 ≤ kd := by omega
        by_cases hkk : kd = 2
        · have hk2 : ((kd : Int) == 2) = true := by rw [hkk]; rfl
          have hgd := GD.out (HKD.out.trans hkk)
          rw [← HTL.out] at hgd
          have hdl : x.val.tok.num = Lx.dec tx.data.toList := by unfold RTok.tok; simp only; rw [if_pos (HKD.out.trans hkk), HTL.out]
          have HDL := Lib.hid hdl
          have HKK := Lib.hid hkk
          clear hdl hkk
          have b2W : b2 < W.heap.size := Q2.out.lt
          have b3W : b3 < W.heap.size := Q3.out.lt
          have b4W : b4 < W.heap.size := Q4.out.lt
          have b5W : b5 < W.heap.size := HV.out.lt
          by_cases hd : Lx.dec tx.data.toList ≤ 1099511627776
          · obtain ⟨d, hdd⟩ : ∃ d, Lx.dec tx.data.toList = d := ⟨_, rfl⟩
            have hfit : x.val.Fits := ⟨HTE.out, fun h => by rw [HKD.out] at h; omega, fun _ => by rw [← HTL.out]; exact hd⟩
            have hat := atoi_ok tx htle hgd.1 hgd.2 d hdd (by omega) W
            have hdle : d ≤ 1099511627776 := by omega
            have HFit := Lib.hid hfit
            have HDD := Lib.hid hdd
            have HAtoi := Lib.hid hat
            clear hfit hdd hat hd hgd
            gi_wp2_with (first
              | (refine ⟨trivial, ?_⟩; gi_at_call 24; refine (CallsIn.inRound l (callsIn_wide.2 HAtoi.out)).mono ?_; rintro e Wa ⟨rfl, hba⟩; obtain ⟨hbc, hbf⟩ := bcell hba)
              | (gi_at_builtin; refine wpListIn_append_at _ rfl _ _ 33 rfl w.heap.size 38 i0 _ 4 40 Tryd.underlying33 hi hz0 hz1 hz2 rfl (by decide) _ (pre.map (·.val.tok)).length (rowOf (pre.map (·.val.tok))) rfl ((HROW.out.kept (Mid.set hba 2 (.int .i64 (d : Int))).grown (.inr HNR.out)).alloc _) _ 1 1 [.int .i64 (kd : Int), .int .i64 (at_ : Int), .int .i64 (d : Int), .string tx] rfl rfl (cells_newAt (size_set _ _ _) _ _) (one_cells _ _ _ _) hc3 (bytes_ok _ hc4) (mid_size hB (Mid.set hba 2 _)) ?_; intro v' w1 hown' hgrow hat'; obtain ⟨g', cap', rfl⟩ := ownsRow_succ hown'; have hv1 := (((Mid.set hba 2 (.int .i64 (d : Int))).box HV.out n5).alloc _).kept hgrow (((Mid.set hba 2 (.int .i64 (d : Int))).box HV.out n5).not_row (by decide) (HROW.out.kept (Mid.set hba 2 (.int .i64 (d : Int))).grown (.inr HNR.out))); have cv1 := hv1.cell; have fv1 := hv1.frozen))
            have hown2 := hown'
            rw [← HKD.out, ← HAT.out, List.length_map] at hown2
            exact round_close l2 l3' l4' l5' g1 g2 HV.out HROW.out Q2.out Q3.out Q4.out hB G3.out G4.out (Mid.set hba 2 _) hown2 HTX.out (by rw [HDL.out, HDD.out]) hgrow hat' HFit.out
          · have hnf : ¬ x.val.Fits := fun hf => by have := hf.2.2 (HKD.out.trans HKK.out); rw [← HTL.out] at this; exact hd this
            have HNF := Lib.hid hnf
            clear hnf
            by_cases hbig : Lx.dec tx.data.toList < 9223372036854775808
            · obtain ⟨d, hdd⟩ : ∃ d, Lx.dec tx.data.toList = d := ⟨_, rfl⟩
              rw [hdd] at hbig hd
              have hat := atoi_ok tx htle hgd.1 hgd.2 d hdd hbig W
              have hdgt : 1099511627776 < d := by omega
              have HAtoi := Lib.hid hat
              have hbig2 : (d : Int) ≤ 9223372036854775807 := by omega
              clear hdd hat hd hgd hbig
              gi_wp2_with (refine ⟨trivial, ?_⟩; gi_at_call 24; refine (CallsIn.inRound l (callsIn_wide.2 HAtoi.out)).mono ?_; rintro e Wa ⟨rfl, hba⟩; obtain ⟨hbc, hbf⟩ := bcell hba)
              exact (ERR.out Wa hba (by omega)) 4 _ (.inr ⟨HTE.out, HNF.out, rfl⟩) rfl
            · have hat := atoi_range tx htle hgd.1 hgd.2 (by omega) W (hR.below hB)
              have HAtoi := Lib.hid hat
              clear hat hd hgd hbig
              gi_wp2_with (refine ⟨trivial, ?_⟩; gi_at_call 24; refine (CallsIn.inRound l (callsIn_wide.2 HAtoi.out)).mono ?_; rintro e Wa ⟨ai, aN, rfl, hba⟩; obtain ⟨hbc, hbf⟩ := bcell hba)
              exact (ERR.out Wa hba (by omega)) 4 _ (.inr ⟨HTE.out, HNF.out, rfl⟩) rfl
        · have hk2 : ((kd : Int) == 2) = false := by simp only [beq_eq_false_iff_ne]; omega
          have hfit : x.val.Fits := ⟨HTE.out, fun h => by rw [HKD.out] at h; omega, fun h => by rw [HKD.out] at h; omega⟩
          have HFit := Lib.hid hfit
          clear hfit
          gi_wp2_with (gi_at_builtin; refine wpListIn_append_at _ rfl _ _ 33 rfl w.heap.size 38 i0 _ 4 40 Tryd.underlying33 hi hz0 hz1 hz2 rfl (by decide) _ (pre.map (·.val.tok)).length (rowOf (pre.map (·.val.tok))) rfl (HROW.out.alloc _) _ 1 1 [.int .i64 (kd : Int), .int .i64 (at_ : Int), .int .i64 0, .string tx] rfl rfl (cells_new _ _ _) (one_cells _ _ _ _) hc3 (bytes_ok _ hc4) hws ?_; intro v' w1 hown' hgrow hat'; obtain ⟨g', cap', rfl⟩ := ownsRow_succ hown'; have hv1 := (HV.out.alloc _).kept hgrow (HV.out.not_row (by decide) HROW.out); have cv1 := hv1.cell; have fv1 := hv1.frozen)
          have hown2 := hown'
          rw [← HKD.out, ← HAT.out, List.length_map] at hown2
          exact round_close l2 l3' l4' l5' g1 g2 HV.out HROW.out Q2.out Q3.out Q4.out hB G3.out G4.out (Mid.refl _ _) hown2 HTX.out (NUM0.out hkk) hgrow hat' HFit.out
  case done =>
    rintro D ys W hD ⟨rfl, rfl, rfl⟩ ⟨⟨v, hv, hrow, _⟩, q2, q3, q4, hB⟩ hK
    have hvs : ∃ A n c, v = .slice A n c := by
      rcases hrow.2 with ⟨rfl, _⟩ | ⟨g, cap, cur, rfl, _⟩
      · exact ⟨_, _, _, rfl⟩
      · exact ⟨_, _, _, rfl⟩
    obtain ⟨vA, vn, vc, rfl⟩ := hvs
    have cv := hv.cell
    have cq2 := q2.cell
    have cq3 := q3.cell
    have cq4 := q4.cell
    have fq2 := q2.frozen
    have fq3 := q3.frozen
    have fq4 := q4.frozen
    gi_wp2
    have k2 := (((q2.set (.slice vA vn vc)).other (B' := b3) (by omega) (.int .i64 0)).other (B' := b4) (by omega) (.int .i64 0))
    have k3 := (((q3.other (B' := b2) (by omega) (.slice vA vn vc)).set (.int .i64 0)).other (B' := b4) (by omega) (.int .i64 0))
    have k4 := (((q4.other (B' := b2) (by omega) (.slice vA vn vc)).other (B' := b3) (by omega) (.int .i64 0)).set (.int .i64 0))
    have hrow3 := ((hrow.kept (grownBy_setCell' W b2 (.slice vA vn vc)) (.inr (q2.not_row (by decide) hrow).symm)).kept (grownBy_setCell' _ b3 (.int .i64 0)) (.inr (q3.not_row (by decide) hrow).symm)).kept (grownBy_setCell' _ b4 (.int .i64 0)) (.inr (q4.not_row (by decide) hrow).symm)
    have hB3 := ((hB.setCell (p := ⟨b2, 0, none⟩) (by simp; omega) (.slice vA vn vc)).setCell (p := ⟨b3, 0, none⟩) (by simp; omega) (.int .i64 0)).setCell (p := ⟨b4, 0, none⟩) (by simp; omega) (.int .i64 0)
    have hK' := (((KeepsOthers.setCell W ⟨b2, 0, none⟩ (.slice vA vn vc)).trans (KeepsOthers.setCell _ ⟨b3, 0, none⟩ (.int .i64 0))).trans (KeepsOthers.setCell _ ⟨b4, 0, none⟩ (.int .i64 0))).same D _ hK rfl
    obtain ⟨Wf, hWf⟩ : ∃ Wf, ((W.setCell ⟨b2, 0, none⟩ (.slice vA vn vc)).setCell ⟨b3, 0, none⟩ (.int .i64 0)).setCell ⟨b4, 0, none⟩ (.int .i64 0) = Wf := ⟨_, rfl⟩
    rw [hWf] at k2 k3 k4 hrow3 hB3 hK' ⊢
    refine ⟨by simp, .inl ⟨_, _, rfl, run_takeDeferred hK', ?_⟩⟩
    have c2 := cell_kept k2.cell (grownBy_putObj' _ D (.deferred none)) (fun r e => by cases e; exact ⟨_, hK', rfl⟩)
    have c3 := cell_kept k3.cell (grownBy_putObj' _ D (.deferred none)) (fun r e => by cases e; exact ⟨_, hK', rfl⟩)
    have c4 := cell_kept k4.cell (grownBy_putObj' _ D (.deferred none)) (fun r e => by cases e; exact ⟨_, hK', rfl⟩)
    refine ⟨.tuple #[.slice vA vn vc, .int .i64 0, .int .i64 0], ?_, _, rfl, ?_, ?_⟩
    · simp [results, Tryd.f16, go_sem, c2, c3, c4]
    · exact ownsRow_putObj hrow3 _ hK' rfl
    · exact hB3.trans (belowK_b (w := w) (Nat.le_refl _) Wf D _ _ (by omega) hK' rfl rfl)
  case stop =>
    rintro D c pre W hD ⟨init, x, hpre, hs1, hs2⟩ ⟨⟨init', x', er, rfl, hpre', her, q2, q3, q4⟩, hB⟩ hK
    have hxx : x = x' := by
      rw [hpre] at hpre'
      have := List.append_inj_right' hpre' rfl
      injection this
    subst hxx
    have hAE : A = x.val.at_ ∧ E = er ∧ E ≠ 0 := by
      rcases her with ⟨h, rfl⟩ | ⟨h, hf, rfl⟩
      · obtain ⟨e1, e2⟩ := hs1 h
        exact ⟨e1, e2, by omega⟩
      · obtain ⟨e1, e2⟩ := hs2 h hf
        exact ⟨e1, e2, by omega⟩
    obtain ⟨rfl, rfl, hE0⟩ := hAE
    gi_wp2
    refine ⟨by simp, .inl ⟨_, _, rfl, run_takeDeferred hK, ?_⟩⟩
    have c2 := cell_kept q2.cell (grownBy_putObj' _ D (.deferred none)) (fun r e => by cases e; exact ⟨_, hK, rfl⟩)
    have c3 := cell_kept q3.cell (grownBy_putObj' _ D (.deferred none)) (fun r e => by cases e; exact ⟨_, hK, rfl⟩)
    have c4 := cell_kept q4.cell (grownBy_putObj' _ D (.deferred none)) (fun r e => by cases e; exact ⟨_, hK, rfl⟩)
    refine ⟨.tuple #[.slice none 0 0, .int .i64 (x.val.at_ : Int), .int .i64 (E : Int)], ?_, _, rfl, ?_, ?_⟩
    · simp [results, Tryd.f16, go_sem, c2, c3, c4]
    · unfold outOf; rw [if_neg hE0]; exact World.ownsRow_nil _ _ _ _
    · exact hB.trans (belowK_b (w := w) (Nat.le_refl _) W D _ _ (by omega) hK rfl rfl)

end Go.Proofs.YtgmlghmlmfbfjaaDoor
