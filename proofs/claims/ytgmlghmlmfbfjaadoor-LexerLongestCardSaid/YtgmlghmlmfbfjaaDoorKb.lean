/- What Tokens answers, by the relation; the clean texts have no errors. -/
import Derived.Test.YtgmlghmlmfbfjaaDoorHa
import Derived.Test.YtgmlghmlmfbfjaaDoorPured
namespace Go.Proofs.YtgmlghmlmfbfjaaDoor
open Go Go.RowKit

theorem lexes_of (l : List UInt8) : ∃ T p e, Lx.Lexes 0 l T p e := by
  have h := Lx.lexes_go (l.length + 1) 0 l (by omega)
  exact ⟨_, _, _, h⟩
theorem lexR_of {l : List UInt8} {T : List Lx.Tok} {p e : Nat} (h : Lx.Lexes 0 l T p e) (hl : l.length ≤ 8192) : lexR l = (outOf T e, p, e) := by
  have h2 := Lx.lexes_go (l.length + 1) 0 l (by omega)
  rw [Nat.zero_add] at h2
  obtain ⟨e1, e2, e3⟩ := h.unique h2
  unfold lexR
  rw [if_neg (by omega)]
  have hz : lexZ l = (T, p, e) := by unfold lexZ; rw [e1, e2, e3]
  rw [hz]
theorem tokens_lex (s : ByteArray) {T : List Lx.Tok} {p e : Nat} (h : Lx.Lexes 0 s.data.toList T p e) (hs : s.size ≤ 8192) (W : World) (hR : RangeOk W) : Calls Tryd.prog 16 #[.string s] W (ResPost 38 (outOf T e, p, e) W) :=
  tokens_any s (by unfold maxLen; omega) _ (lexR_of h (by simpa using hs)) W hR
theorem tokens_ok (s : ByteArray) {T : List Lx.Tok} (h : Lx.Lexes 0 s.data.toList T 0 0) (hs : s.size ≤ 8192) (W : World) (hR : RangeOk W) : Calls Tryd.prog 16 #[.string s] W (ResPost 38 (T, 0, 0) W) :=
  tokens_lex s h hs W hR

/-- Each piece of a clean text, with the blanks behind it, has no errors, and is over at its end. -/
def segOk (i j : Nat) : Bool :=
  let x := piece i ++ sep j
  let z := Lx.lexGo (x.length + 1) (0 + Lx.skipL false x) (x.drop (Lx.skipL false x))
  z.2.1 == 0 && z.2.2 == 0 && (match x.getLast? with | some b => Lx.cls b == 0 | none => false) && x.foldl Lx.nextC false == false
theorem seg_all : ∀ i, i < 37 → ∀ j, j < 3 → segOk i j = true := by decide +kernel
theorem seg_lex (x : Int) : (∃ T, Lx.Lexes 0 (cleanOne x) T 0 0) ∧ Lx.Closed (cleanOne x) := by
  have h := seg_all (around x 37) (around_lt x 37 (by omega)) (around (x.tdiv 37) 3) (around_lt _ 3 (by omega))
  unfold segOk at h
  simp only [Bool.and_eq_true, beq_iff_eq] at h
  obtain ⟨⟨⟨h1, h2⟩, h3⟩, h4⟩ := h
  have hl := Lx.lexes_go ((cleanOne x).length + 1) 0 (cleanOne x) (by omega)
  have e : cleanOne x = piece (around x 37) ++ sep (around (x.tdiv 37) 3) := rfl
  rw [← e] at h1 h2 h3 h4
  rw [h1, h2] at hl
  refine ⟨⟨_, hl⟩, .inr ?_, h4⟩
  cases hg : (cleanOne x).getLast? with
  | none => rw [hg] at h3; cases h3
  | some b =>
    rw [hg] at h3
    obtain ⟨y, hy⟩ := List.getLast?_eq_some_iff.1 hg
    exact ⟨y, b, hy, by simpa using h3⟩
theorem segs_lex : ∀ l : List Int, (∀ a, ∃ T, Lx.Lexes a (l.flatMap cleanOne) T 0 0) ∧ Lx.Closed (l.flatMap cleanOne)
  | [] => ⟨fun a => ⟨[], .done a _ rfl⟩, Lx.Closed.nil⟩
  | x :: r => by
    obtain ⟨ih, ihc⟩ := segs_lex r
    obtain ⟨⟨T, hT⟩, hc⟩ := seg_lex x
    rw [List.flatMap_cons]
    refine ⟨fun a => ?_, hc.app ihc⟩
    obtain ⟨T1, h1, _⟩ := hT.shift rfl a
    obtain ⟨T2, h2⟩ := ih (a + (cleanOne x).length)
    exact ⟨_, h1.app rfl hc h2⟩
theorem clean_lex (l : List Int) : (∃ T, Lx.Lexes 0 (cleanL l) T 0 0) ∧ Lx.Closed (cleanL l) :=
  ⟨(segs_lex (l.take 24)).1 0, (segs_lex (l.take 24)).2⟩

end Go.Proofs.YtgmlghmlmfbfjaaDoor
