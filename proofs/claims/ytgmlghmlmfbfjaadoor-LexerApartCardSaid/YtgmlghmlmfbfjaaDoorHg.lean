/- LexerApart: its plain part, Pick. -/
import Derived.Test.YtgmlghmlmfbfjaaDoorHe
import Derived.Laws.AppendOwnNone
namespace Go.Proofs.YtgmlghmlmfbfjaaDoor
open Go Go.RowKit

/-- What stands ahead of a token. -/
def asepsB : List ByteArray := [⟨#[32]⟩, ⟨#[10]⟩, ⟨#[32, 9]⟩, ⟨#[35, 120, 10]⟩]
def asep (i : Nat) : ByteArray := asepsB.getD i ⟨#[]⟩
def asepCells : Array Value := #[.string ⟨#[32]⟩, .string ⟨#[10]⟩, .string ⟨#[32, 9]⟩, .string ⟨#[35, 120, 10]⟩]
theorem asepCells_at (i : Nat) (h : i < 4) : asepCells[i]? = some (.string (asep i)) := by
  match i, h with
  | 0, _ => rfl
  | 1, _ => rfl
  | 2, _ => rfl
  | 3, _ => rfl
theorem asepCells_cell (w : World) (i : Nat) (h : i < 4) : (w.alloc (.cells asepCells 9)).cell? ⟨w.heap.size, i, none⟩ = some (.string (asep i)) := by
  rw [cell_of_row _ w.heap.size i asepCells 9 (0, 0) (heap_alloc_new w _)]; exact asepCells_at i h
theorem asep_gap (i : Nat) (h : i < 4) : Lx.Gap (asep i).data.toList ∧ (asep i).size ≤ 3 := by
  match i, h with
  | 0, _ => exact ⟨⟨rfl, rfl, _, _, rfl, .inl rfl⟩, by decide⟩
  | 1, _ => exact ⟨⟨rfl, rfl, _, _, rfl, .inl rfl⟩, by decide⟩
  | 2, _ => exact ⟨⟨rfl, rfl, _, _, rfl, .inl rfl⟩, by decide⟩
  | 3, _ => exact ⟨⟨rfl, rfl, _, _, rfl, .inr rfl⟩, by decide⟩
def pickN (l : List Int) (i m : Nat) : Nat := if i < l.length then around (l.getD i 0) m else 0
theorem pickN_lt (l : List Int) (i m : Nat) (h : 0 < m) : pickN l i m < m := by
  unfold pickN; split
  · exact around_lt _ m h
  · exact h
theorem pick_any (l : List Int) (v : Value) (i m : Nat) (w : World) (hl : IntSl w v l) (hi : i < 9223372036854775808) (h1 : 0 < m) (h2 : m < 9223372036854775808) :
    Calls Tryd.prog 17 #[v, .int .i64 (i : Int), .int .i64 (m : Int)] w fun e w' => e = .returned (.int .i64 (pickN l i m : Int)) ∧ w' = w := by
  obtain ⟨A, c, rfl, hc, hm⟩ := hl.form
  generalize hn : l.length = n at *
  have hp0 : i < n → pickN l i m = around (l.getD i 0) m := fun h => by unfold pickN; rw [if_pos (by omega)]
  have hp1 : ¬ i < n → pickN l i m = 0 := fun h => by unfold pickN; rw [if_neg (by omega)]
  generalize pickN l i m = j at *
  unfold maxLen at hm
  have f0 : (0 : Int) ≤ (i : Int) := by omega
  by_cases h : i < n
  · obtain ⟨hx, a, rfl, hg, hcell⟩ := int_cell hl i h
    have hj := hp0 h
    subst hj
    have f1 : (i : Int) < (n : Int) := by omega
    have HA := Lib.hid (fun w1 => around_any (l.getD i 0) m hx h1 h2 w1)
    clear hl hp0 hp1 hn
    generalize around (l.getD i 0) m = j at *
    generalize l.getD i 0 = x at *
    go_enter Tryd.func17, Tryd.ntmps17
    go_wp2_with (go_at_call 15; refine (HA.out _).mono ?_; rintro e w' ⟨rfl, rfl⟩)
    go_ret
    exact ⟨rfl, rfl⟩
  · have hj := hp1 h
    subst hj
    clear hl hp0 hp1 hn
    go_enter Tryd.func17, Tryd.ntmps17
    go_wp2_with fail
    go_ret
    exact ⟨rfl, rfl⟩

theorem rowOf_append (a b : List Lx.Tok) : rowOf (a ++ b) = rowOf a ++ rowOf b := List.flatMap_append
theorem core_at {a b : List Lx.Tok} (h : a.map Lx.core = b.map Lx.core) (k : Nat) : (a.getD k d0).kind = (b.getD k d0).kind ∧ (a.getD k d0).num = (b.getD k d0).num ∧ (a.getD k d0).text = (b.getD k d0).text := by
  have h1 : Lx.core (a.getD k d0) = Lx.core (b.getD k d0) := by
    have e : ∀ l : List Lx.Tok, Lx.core (l.getD k d0) = (l.map Lx.core).getD k (Lx.core d0) := fun l => by
      rw [List.getD_eq_getElem?_getD, List.getD_eq_getElem?_getD, List.getElem?_map]
      cases l[k]? <;> rfl
    rw [e, e, h]
  unfold Lx.core at h1
  simp only [Prod.mk.injEq] at h1
  exact h1
theorem cells_one (a : List Lx.Tok) : ∀ u ∈ rowOf a, u.oneCell' = true := by
  intro u hu
  obtain ⟨t, _, ht⟩ := List.mem_flatMap.1 hu
  simp only [tokCells, List.mem_cons, List.not_mem_nil, or_false] at ht
  rcases ht with rfl | rfl | rfl | rfl <;> rfl

theorem wpList_append_two {ops : Array Oper} {rest : List Oper} {o : Oper} {a : Act} {Q : Exit → Act → World → Prop} {w : World} (hgd : o.guard = none) (s x : Operand)
    (ho : o.op = .call { callee := .builtin .append, args := #[s, x], argTypes := #[42, 42] }) (base base2 : Nat) (v v2 : Value) (n m : Nat) (xs ys : List Value) (hs : a.eval s = v) (hx : a.eval x = v2)
    (hown : w.ownsRow base 57 4 v n xs) (hown2 : w.ownsRow base2 57 4 v2 m ys) (h1 : ∀ u ∈ ys, u.oneCell' = true) (hnm : n + m ≤ 100000) (hbase : base ≤ w.heap.size)
    (h : ∀ v' w', w'.ownsRow base 57 4 v' (n + m) (xs ++ ys) → w.grownBy w' v.ownBlock → wpList Tryd.prog ops Q rest (a.put o.dst v') w') : wpList Tryd.prog ops Q (o :: rest) a w := by
  obtain ⟨i0, hi, hz0, hz1, hz2⟩ := info_parts Tryd.info57
  have hlen := hown2.1
  rcases hown2.2 with ⟨rfl, rfl⟩ | ⟨g, cap, cur, rfl, hb, hg, hn, hc, hsz, ht⟩
  · have hy : ys = [] := List.eq_nil_of_length_eq_zero (by omega)
    subst hy
    refine wpList_append_own_none hgd s x 42 ho base 57 i0 4 Tryd.underlying42 hi v n xs hs hown hx (h v w ?_ ?_)
    · rw [List.append_nil]; exact hown
    · exact World.grownBy.refl _ _
  · refine wpList_append_own w hgd s x 42 ho base 57 i0 _ 4 40 Tryd.underlying42 hi hz0 hz1 hz2 rfl (by omega) v n xs hs hown ⟨g, 0, none⟩ m cap ys hx (by omega) ?_ h1 (by unfold maxLen; omega) (by omega) hbase (fun v' w' h2 h3 _ => h v' w' h2 h3)
    intro j u hu
    exact hown2.cells (g := g) rfl j u hu

end Go.Proofs.YtgmlghmlmfbfjaaDoor
