/- Both lexers compute one function. -/
import Derived.Test.YtgmlghmlmfbfjaaDoorJb
namespace Go.Proofs.YtgmlghmlmfbfjaaDoor
open Go Go.RowKit

/-- What Tokens answers. -/
def lexZ (l : List UInt8) : List Lx.Tok × Nat × Nat := Lx.lexGo (l.length + 1) (Lx.skipL false l) (l.drop (Lx.skipL false l))
def lexR (l : List UInt8) : List Lx.Tok × Nat × Nat := if 8192 < l.length then ([], 0, 4) else (outOf (lexZ l).1 (lexZ l).2.2, (lexZ l).2)
/-- How it is handed back: t: the tokens' type. -/
def ResPost (t : TypeId) (r : List Lx.Tok × Nat × Nat) (w : World) (e : Ending) (w' : World) : Prop :=
  ∃ v, e = .returned (.tuple #[v, .int .i64 (r.2.1 : Int), .int .i64 (r.2.2 : Int)]) ∧ w'.ownsRow w.heap.size t 4 v r.1.length (rowOf r.1) ∧ Below w.heap.size w w'

set_option maxRecDepth 100000 in
theorem tokens_long (s : ByteArray) (h : 8192 < s.size) (hs : s.size ≤ maxLen) (w : World) : Calls Tryd.prog 16 #[.string s] w (ResPost 38 ([], 0, 4) w) := by
  unfold maxLen at hs
  go_enter Tryd.func16, Tryd.ntmps16
  go_wp2
  exact bodyPost_ret (v := .tuple #[.slice none 0 0, .int .i64 0, .int .i64 4]) (by simp [results, Tryd.f16, go_sem]) rfl
    ⟨_, rfl, World.ownsRow_nil _ _ _ _, (((Below.refl _ w).alloc (Nat.le_refl _) _).alloc (by simp) _).alloc (by simp; omega) _⟩
set_option maxRecDepth 100000 in
theorem refTokens_long (s : ByteArray) (h : 8192 < s.size) (hs : s.size ≤ maxLen) (w : World) : Calls Tryd.prog 22 #[.string s] w (ResPost 57 ([], 0, 4) w) := by
  unfold maxLen at hs
  go_enter Tryd.func22, Tryd.ntmps22
  go_wp2
  go_ret3
  exact ⟨_, rfl, World.ownsRow_nil _ _ _ _, Below.refl _ _⟩
theorem tokens_any (s : ByteArray) (hs : s.size ≤ maxLen) (r : List Lx.Tok × Nat × Nat) (hr : lexR s.data.toList = r) (w : World) (hR : RangeOk w) : Calls Tryd.prog 16 #[.string s] w (ResPost 38 r w) := by
  subst hr
  have hl : s.data.toList.length = s.size := by simp
  by_cases h : 8192 < s.size
  · unfold lexR; rw [if_pos (by omega)]; exact tokens_long s h hs w
  · unfold lexR; rw [if_neg (by omega)]
    exact callsIn_wide.1 (tokens_in 6 (Nat.le_refl _) s (by omega) (lexZ s.data.toList).1 (lexZ s.data.toList).2.1 (lexZ s.data.toList).2.2 _ rfl rfl w hR)
theorem refTokens_any (s : ByteArray) (hs : s.size ≤ maxLen) (r : List Lx.Tok × Nat × Nat) (hr : lexR s.data.toList = r) (w : World) : Calls Tryd.prog 22 #[.string s] w (ResPost 57 r w) := by
  subst hr
  have hl : s.data.toList.length = s.size := by simp
  by_cases h : 8192 < s.size
  · unfold lexR; rw [if_pos (by omega)]; exact refTokens_long s h hs w
  · unfold lexR; rw [if_neg (by omega)]
    exact refTokens_walk s w (by omega) (lexZ s.data.toList).1 (lexZ s.data.toList).2.1 (lexZ s.data.toList).2.2 _ rfl rfl

end Go.Proofs.YtgmlghmlmfbfjaaDoor
