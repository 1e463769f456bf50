/- LexerLongest returns true for every input, and leaves its arguments as they were, where the listed package-level variables read as the row lists them: the row and its tied card. -/
import Derived.Test.YtgmlghmlmfbfjaaDoorHl
import Derived.Test.YtgmlghmlmfbfjaaDoorRa
namespace Go.Proofs.YtgmlghmlmfbfjaaDoor
open Go Go.ChangeShapes Go.WideShapes Go.ChangeAt Go.RowKit
open Go.ChangeMaps (open_string shut_string)

set_option maxRecDepth 100000 in
theorem lexerLongest_contract (H : Type) (enc : TypeId × Value → H) (W : World) (base : Nat) (args : Array Value) (ds gs : List (DataW H)) (before : List MemPlace)
    (hval : ∀ (j : Nat) t v, Tryd.f9.params[j]? = some t → args[j]? = some v → Value.okWide Tryd.prog W .any base t v)
    (hW : DataW.Whole enc Tryd.prog Tryd.f9.params.toList Rows.lexerLongestSpec.vars false W args.toList ds gs before) (hL : laidMet Tryd.prog laid5 W) :
    Calls Tryd.prog 9 args W fun e W' => ∃ v, e = .returned v ∧ Rows.lexerLongestSpec.post enc Tryd.prog Tryd.f9 false true false false W args v W' := by
  have hR := rangeOk_of hL
  have hW' := hW
  have hlt := fun x hx => hW.lt x hx
  obtain ⟨p, q, hA0, hV, rfl, hfz, hnd⟩ := hW
  have hA : DataW.TrodAll enc Tryd.prog W 0 (fun _ => true) true Tryd.f9.params.toList args.toList ds p := hA0
  clear hA0
  have hA2 := hA
  rw [Tryd.params9] at hA hval
  obtain ⟨v0, vs0, d0, ds0, p0, q0, hargs, rfl, rfl, h0, r0⟩ := trodAll_cons hA
  obtain ⟨rfl, rfl, rfl⟩ := trodAll_nil r0
  obtain rfl : args = #[v0] := by cases args; simp_all
  obtain ⟨rfl, rfl⟩ := trodVars_none hV
  obtain ⟨l0, hl0⟩ := open_sl (hval 0 22 v0 rfl rfl) h0
  refine (lexerLongest_any l0 v0 W hl0 hR).mono fun e W' ⟨he, hb⟩ => ?_
  subst he
  have hargs2 := trodAll_below hb (fun t ht => by
    rw [Tryd.params9] at ht
    have ht' : t ∈ ([22] : List Nat) := ht
    simp only [List.mem_cons, List.not_mem_nil, or_false] at ht'
    rcases ht' with rfl
    · exact read22) hA2 (fun x hx => hlt x (List.mem_append_left _ hx))
  exact ⟨_, rfl, _, _, _, [], _, [], hW', trodAll_mk1 (shut_bool Tryd.underlying4 _), hargs2, rfl, hb.frame _, fun h => by cases h⟩

set_option maxRecDepth 100000 in
theorem lexerLongest_lifted (os : Os) (started : os.Started) (H : Type) (enc : TypeId × Value → H) (F : Stop.Interp) :
    ReturnsInHanded {} Tryd.checked os 9 .any ((OpenSpec.ofChange Rows.lexerLongestSpec).preRow enc Tryd.prog Tryd.f9 Rows.lexerLongestRow.domain false Rows.lexerLongestRow.laid) (((OpenSpec.ofChange Rows.lexerLongestSpec).at F).post enc Tryd.prog Tryd.f9 false true false false) := by
  have hw : (DataW.whole enc Tryd.prog ((laidWorld os).forCall (fun _ _ => 0) ⟨#[], #[.slice none 0 0], []⟩).memory Tryd.f9.params.toList Rows.lexerLongestSpec.vars false (#[.slice none 0 0] : Array Value).toList 8).map (fun x => (x.1, x.2.1)) = some ([.nil], []) := by kernel_rfl
  obtain ⟨⟨x1, x2, x3⟩, hx, hx1⟩ := Option.map_eq_some_iff.1 hw
  simp only [Prod.mk.injEq] at hx1
  obtain ⟨rfl, rfl⟩ := hx1
  refine returnsInHanded_of_row (C := Tryd.checked) (s := OpenSpec.ofChange Rows.lexerLongestSpec) own started (by kernel_rfl) Tryd.func9
    (witness_row_atRef (enc := enc) (C := Tryd.checked) false (laidWorld os) #[.slice none 0 0] rfl (by kernel_rfl) (by kernel_rfl) (by kernel_rfl)
      (OpenSpec.preRow_of_cond 8 hx (by kernel_rfl) (fun k hk => by cases hk) (by kernel_rfl) (laid_met os _))) ?_
  intro W base args ds gs before hval hW _ _ _ hL _ _
  exact lexerLongest_contract H enc W base args ds gs before hval hW hL

theorem lexerLongest_said : Rows.LexerLongestSaid :=
  OpenClaim.holds_of_cond 9 Tryd.f9 rfl rfl rfl rfl rfl rfl rfl ⟨rfl, rfl, rfl, rfl, rfl⟩ rfl rfl rfl rfl rfl (by kernel_rfl) Tryd.func9 (by kernel_rfl)
    (of_decide_eq_true (by kernel_rfl)) (by unfold Func.isWrapper; first | (rw [if_pos (by decide +kernel)]; kernel_rfl) | (rw [if_neg (by decide +kernel)]; exact ⟨rfl, rfl⟩))
    (fun os started H enc _ F => by rw [OpenClaim.pre_eq_preRow]; exact lexerLongest_lifted os started H enc F)

/-- No parameter wants a stand-in; the program's own looks are as the card says. -/
theorem lexerLongest_plain (f : FuncId) (fn : Func) (hf : Tryd.pinned.checked.prog.funcNamed "refuter/refuterlaw08.LexerLongest" = some f) (hfn : Tryd.pinned.checked.prog.funcs[f]? = some fn) :
    true = Tryd.pinned.checked.prog.looks [] ∧ ∀ (j : Nat) t, fn.params[j]? = some t → Tryd.pinned.checked.prog.wantsStandIn t = false := by
  obtain rfl : f = 9 := Option.some.inj ((show Tryd.prog.funcNamed "refuter/refuterlaw08.LexerLongest" = some 9 by kernel_rfl).symm.trans hf) |>.symm
  obtain rfl : fn = Tryd.f9 := (Option.some.inj (Tryd.func9.symm.trans hfn)).symm
  refine ⟨by kernel_rfl, fun j t ht => ?_⟩
  rw [Tryd.params9] at ht
  have ht' : t ∈ ([22] : List Nat) := by simpa using Array.mem_of_getElem? ht
  simp only [List.mem_cons, List.not_mem_nil, or_false] at ht'
  rcases ht' with rfl
  · exact (show Tryd.prog.wantsStandIn 22 = false by kernel_rfl)

theorem lexerLongest_card : Rows.LexerLongestCardSaid :=
  Claim7.holds_tied_plain_at .later [] _ _ _ _ lexerLongest_said (fun _ h => by cases h) (by kernel_rfl) (fun _ h => by cases h) lexerLongest_row_tie rfl ⟨rfl, rfl⟩ (by kernel_rfl) rfl lexerLongest_plain (by kernel_rfl)

end Go.Proofs.YtgmlghmlmfbfjaaDoor
