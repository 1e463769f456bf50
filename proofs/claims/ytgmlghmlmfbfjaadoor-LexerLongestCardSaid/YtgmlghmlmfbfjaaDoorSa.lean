/- same and tokens of the laws. -/
import Derived.Test.YtgmlghmlmfbfjaaDoorVb
import Derived.Deep.RegionHeld3
import Derived.Deep.AppendLies
import Derived.WalkSpells
namespace Go.Proofs.YtgmlghmlmfbfjaaDoor
open Go Go.RowKit

/-- A slice of tokens that can be read. -/
def TokSl (w : World) (v : Value) (ts : List Lx.Tok) : Prop :=
  ∃ A c, v = .slice A ts.length c ∧ ts.length ≤ c ∧ (0 < ts.length → ∃ g, A = some ⟨g, 0, none⟩ ∧ g < w.heap.size ∧ ∀ j u, (rowOf ts)[j]? = some u → w.cell? ⟨g, j, none⟩ = some u)
theorem TokSl.of_own {w : World} {B : Nat} {t : TypeId} {v : Value} {ts : List Lx.Tok} (h : w.ownsRow B t 4 v ts.length (rowOf ts)) : TokSl w v ts := by
  rcases h.2 with ⟨rfl, h0⟩ | ⟨g, cap, cur, rfl, hb, hg, hn, hc, hs, ht⟩
  · exact ⟨none, 0, by rw [h0], by omega, fun h => by omega⟩
  · refine ⟨_, cap, rfl, hn, fun _ => ⟨g, rfl, (Array.getElem?_eq_some_iff.1 hg).1, fun j u hu => ?_⟩⟩
    have := h.cells (g := g) rfl j u hu
    have hadd : (⟨g, 0, none⟩ : Addr).add j = ⟨g, j, none⟩ := by unfold Addr.add; split <;> simp_all
    rwa [hadd] at this
theorem TokSl.below {w w' : World} {v : Value} {ts : List Lx.Tok} (h : TokSl w v ts) (hb : Below w.heap.size w w') : TokSl w' v ts := by
  obtain ⟨A, c, h1, h2, h3⟩ := h
  refine ⟨A, c, h1, h2, fun h0 => ?_⟩
  obtain ⟨g, hA, hg, hc⟩ := h3 h0
  exact ⟨g, hA, Nat.lt_of_lt_of_le hg hb.size, fun j u hu => (hb.cell (p := ⟨g, j, none⟩) hg).trans (hc j u hu)⟩
theorem rowOf_at : ∀ (ts : List Lx.Tok) (k : Nat) (h : k < ts.length), (rowOf ts)[k * 4]? = some (.int .i64 (ts[k].kind : Int)) ∧ (rowOf ts)[k * 4 + 1]? = some (.int .i64 (ts[k].at_ : Int)) ∧ (rowOf ts)[k * 4 + 2]? = some (.int .i64 (ts[k].num : Int)) ∧ (rowOf ts)[k * 4 + 3]? = some (.string ⟨ts[k].text.toArray⟩)
  | t :: r, 0, h => ⟨rfl, rfl, rfl, rfl⟩
  | t :: r, k + 1, h => by
    have ih := rowOf_at r k (by simpa using h)
    have e : rowOf (t :: r) = tokCells t ++ rowOf r := rfl
    have l4 : (tokCells t).length = 4 := rfl
    have s : ∀ j, (tokCells t ++ rowOf r)[(k + 1) * 4 + j]? = (rowOf r)[k * 4 + j]? := fun j => by
      rw [List.getElem?_append_right (by rw [l4]; omega), l4]; congr 1; omega
    rw [e]
    have s0 := s 0
    simp only [Nat.add_zero] at s0
    rw [s0, s 1, s 2, s 3]
    exact ih
def d0 : Lx.Tok := { kind := 0, at_ := 0, num := 0, text := [] }
/-- The four cells of element k. -/
theorem tok_cells {w : World} {A : Option Addr} {n c : Nat} {ts : List Lx.Tok} (h : TokSl w (.slice A n c) ts) (k : Nat) (hk : k < n) : ∃ g, A = some ⟨g, 0, none⟩ ∧ g < w.heap.size ∧
    w.cell? ⟨g, k * 4, none⟩ = some (.int .i64 ((ts.getD k d0).kind : Int)) ∧ w.cell? ⟨g, k * 4 + 1, none⟩ = some (.int .i64 ((ts.getD k d0).at_ : Int)) ∧ w.cell? ⟨g, k * 4 + 2, none⟩ = some (.int .i64 ((ts.getD k d0).num : Int)) ∧ w.cell? ⟨g, k * 4 + 3, none⟩ = some (.string ⟨(ts.getD k d0).text.toArray⟩) := by
  obtain ⟨A', c', h1, h2, h3⟩ := h
  injection h1 with e1 e2 e3
  subst e1 e2
  obtain ⟨g, hA, hg, hc⟩ := h3 (by omega)
  subst hA
  obtain ⟨r0, r1, r2, r3⟩ := rowOf_at ts k hk
  have e : ts.getD k d0 = ts[k] := by rw [List.getD_eq_getElem?_getD, List.getElem?_eq_getElem hk]; rfl
  rw [e]
  exact ⟨g, rfl, hg, hc _ _ r0, hc _ _ r1, hc _ _ r2, hc _ _ r3⟩
theorem TokSl.form {w : World} {v : Value} {ts : List Lx.Tok} (h : TokSl w v ts) : ∃ A c, v = .slice A ts.length c ∧ ts.length ≤ c := by
  obtain ⟨A, c, h1, h2, _⟩ := h
  exact ⟨A, c, h1, h2⟩

set_option maxRecDepth 100000 in
set_option maxHeartbeats 4000000 in
theorem same_true (a b : List Lx.Tok) (off : Bool) (A B : Option Addr) (n ca cb : Nat) (w : World) (ha : TokSl w (.slice A n ca) a) (hb : TokSl w (.slice B n cb) b) (hl : n ≤ 8192) (hca : n ≤ ca) (hcb : n ≤ cb)
    (heq : ∀ k, k < n → (a.getD k d0).kind = (b.getD k d0).kind ∧ (a.getD k d0).num = (b.getD k d0).num ∧ (a.getD k d0).text = (b.getD k d0).text ∧ (off = true → (a.getD k d0).at_ = (b.getD k d0).at_)) :
    Calls Tryd.prog 18 #[.slice A n ca, .slice B n cb, .bool off] w fun e w' => e = .returned (.bool true) ∧ ∃ n, w' = w.drewN n := by
  have HA := Lib.hid ha
  have HB := Lib.hid hb
  have HEQ := Lib.hid heq
  clear ha hb heq
  go_enter Tryd.func18, Tryd.ntmps18
  go_wp2
  go_loopw [7] (fun t wr => ∃ (k q : Nat), k ≤ n ∧ t = .int .i64 k ∧ wr = w.drewN q) (fun t _ => n - (intOf t).toNat)
  case atStart => exact ⟨0, 0, by omega, rfl, rfl⟩
  case round =>
    obtain ⟨k, q, hk, rfl, rfl⟩ := hrel
    by_cases hlt : k < n
    · have hab := HEQ.out k hlt
      obtain ⟨ga, rfl, hga, a0, a1, a2, a3⟩ := tok_cells HA.out k hlt
      obtain ⟨gb, rfl, hgb, b0, b1, b2, b3⟩ := tok_cells HB.out k hlt
      obtain ⟨e1, e2, e3, e4⟩ := hab
      rw [← e1] at b0
      rw [← e2] at b2
      rw [← e3] at b3
      have f0 : (0 : Int) ≤ (k : Int) := by omega
      have f1 : (k : Int) < (n : Int) := by omega
      have E4 := Lib.hid e4
      clear e1 e2 e3 e4
      generalize (a.getD k d0).kind = x0 at *
      generalize (a.getD k d0).num = x2 at *
      generalize (⟨(a.getD k d0).text.toArray⟩ : ByteArray) = x3 at *
      cases off with
      | true =>
        rw [← E4.out rfl] at b1
        generalize (a.getD k d0).at_ = x1 at *
        go_wp2
        go_quiet (fail)
        go_wp2
        go_roundw
        case rel => exact ⟨k + 1, _, by omega, by go_num, rfl⟩
        case measure => simp [intOf]; omega
      | false =>
        go_wp2
        go_quiet (fail)
        go_wp2
        go_roundw
        case rel => exact ⟨k + 1, _, by omega, by go_num, rfl⟩
        case measure => simp [intOf]; omega
    · go_wp2
      go_ret
      exact ⟨rfl, _, rfl⟩


theorem row_take (a : List Lx.Tok) (k : Nat) (h : k < a.length) : rowOf (a.take (k + 1)) = rowOf (a.take k) ++ [.int .i64 ((a.getD k d0).kind : Int), .int .i64 ((a.getD k d0).at_ : Int), .int .i64 ((a.getD k d0).num : Int), .string ⟨(a.getD k d0).text.toArray⟩] := by
  rw [List.take_succ_eq_append_getElem h, rowOf_snoc]
  have e : a.getD k d0 = a[k] := by rw [List.getD_eq_getElem?_getD, List.getElem?_eq_getElem h]; rfl
  rw [e]; rfl
theorem bytes_ok2 (k : Nat) (h : k ≤ 8192) : (k + 1) * 40 ≤ 140737488355328 := by omega
set_option maxRecDepth 100000 in
set_option maxHeartbeats 4000000 in
theorem tokens19 (a : List Lx.Tok) (A : Option Addr) (n c : Nat) (w : World) (ha : TokSl w (.slice A n c) a) (hal : a.length = n) (hl : n ≤ 8192) (hc : n ≤ c) :
    Calls Tryd.prog 19 #[.slice A n c] w fun e w' => ∃ v, e = .returned v ∧ w'.ownsRow w.heap.size 57 4 v n (rowOf a) ∧ Below w.heap.size w w' := by
  obtain ⟨i0, hi, hz0, hz1, hz2⟩ := info_parts Tryd.info57
  have HA := Lib.hid ha
  have HL := Lib.hid hal
  clear ha hal
  go_enter Tryd.func19, Tryd.ntmps19
  go_wp2
  go_loopw [3, 4] (fun v t wr => ∃ (k : Nat), k ≤ n ∧ t = .int .i64 k ∧ wr.ownsRow w.heap.size 57 4 v k (rowOf (a.take k)) ∧ Below w.heap.size w wr) (fun _ t _ => n - (intOf t).toNat)
  case atStart => exact ⟨0, by omega, rfl, World.ownsRow_nil _ _ _ _, Below.refl _ _⟩
  case round =>
    obtain ⟨k, hk, rfl, hown, hbel⟩ := hrel
    by_cases hlt : k < n
    · obtain ⟨ga, rfl, hga, a0', a1', a2', a3'⟩ := tok_cells HA.out k hlt
      have a0 := (hbel.cell (p := ⟨ga, k * 4, none⟩) hga).trans a0'
      have a1 := (hbel.cell (p := ⟨ga, k * 4 + 1, none⟩) hga).trans a1'
      have a2 := (hbel.cell (p := ⟨ga, k * 4 + 2, none⟩) hga).trans a2'
      have a3 := (hbel.cell (p := ⟨ga, k * 4 + 3, none⟩) hga).trans a3'
      clear a0' a1' a2' a3'
      have f0 : (0 : Int) ≤ (k : Int) := by omega
      have f1 : (k : Int) < (n : Int) := by omega
      have hc3 : k + 1 ≤ maxLen := by unfold maxLen; omega
      have hc4 : k ≤ 8192 := by omega
      have hne : u3.ownBlock ≠ some ga := fun e => by have := (hown.lt _ e).1; omega
      have hbs := hbel.size
      have hgr : ga < wr.heap.size := by omega
      have HR := Lib.hid (row_take a k (by rw [HL.out]; exact hlt))
      generalize (a.getD k d0).kind = x0 at *
      generalize (a.getD k d0).num = x2 at *
      generalize (a.getD k d0).at_ = x1 at *
      generalize (⟨(a.getD k d0).text.toArray⟩ : ByteArray) = x3 at *
      go_wp2
      go_region_held3 (fun w' => w'.cell? ⟨ga, k * 4, none⟩ = some (.int .i64 (x0 : Int)) ∧ w'.cell? ⟨ga, k * 4 + 1, none⟩ = some (.int .i64 (x1 : Int)) ∧ w'.cell? ⟨ga, k * 4 + 2, none⟩ = some (.int .i64 (x2 : Int)) ∧ w'.cell? ⟨ga, k * 4 + 3, none⟩ = some (.string x3))
        (first
          | go_keep
          | (go_split_ands
             refine ⟨?_, ?_, ?_, ?_⟩
             all_goals (rw [hgrow.cell_far _ (by simp; omega) (Ne.symm hne)]; assumption)))
        ((refine step_append_lies _ (by rfl) _ _ _ (by rfl) w.heap.size 57 i0 _ 4 40 Tryd.underlying42 hi hz0 hz1 hz2 rfl (by omega) _ k (rowOf (a.take k)) (by rfl) ((hown.alloc _).drew) ⟨wr.heap.size, 0, none⟩ 1 1 [.int .i64 (x0 : Int), .int .i64 (x1 : Int), .int .i64 (x2 : Int), .string x3] (by rfl) (by rfl) (World.news_of_block (cs := #[.int .i64 (x0 : Int), .int .i64 (x1 : Int), .int .i64 (x2 : Int), .string x3]) (t := 57) (fr := (0, 0)) (heap_alloc_new wr _)) (one_cells _ _ _ _) (by omega) hc3 (bytes_ok2 _ hc4) (by simp; omega) (wr.heap.size + 1) (by simp) ?_; intro gg cap w1 hown1 hgrow hat hlt))
      go_wp2
      go_roundw
      case rel => exact ⟨k + 1, by omega, by go_num, by rw [HR.out]; exact hown1, ((hbel.alloc hbs _).drew).grown hgrow (by simp; omega) (fun j hj => (hown.lt j hj).1)⟩
      case measure => simp [intOf]; omega
    · go_wp2
      go_ret
      have hkn : k = n := by omega
      subst hkn
      refine ⟨_, rfl, ?_, hbel⟩
      rw [List.take_of_length_le (by rw [HL.out]; exact Nat.le_refl _)] at hown
      exact hown


end Go.Proofs.YtgmlghmlmfbfjaaDoor
