/- For every clause, moves, turns and number whose readings are together of bulk at most 1048576, ClauseAlike returns true and leaves its arguments as they read; the condition: the three tables of the library hold what their initialisers lay. -/
import Derived.Test.YtkgkdfhipgjobaaDoorCards
import Derived.Test.YtkgkdfhipgjobaaDoorTie
import Derived.Test.YtkgkdfhipgjobaaDoorRead
import Derived.Test.YtkgkdfhipgjobaaDoorMain
import Derived.Test.YtkgkdfhipgjobaaDoorWakes
import Derived.WalkKit
import Derived.ProofKit
import Derived.OpenShut
import Derived.Deep.DeepHandedRow
import Derived.Lib.LaidTab
import Derived.Deep.Slices
import Derived.Carry
namespace Go.Proofs.YtkgkdfhipgjobaaDoor.clauseAlike
open Go.ChangeShapes Go.WideShapes Go.ChangeAt Go.RowKit
set_option linter.unusedVariables false

theorem own : ownKnob Tryd.prog.godebug = none := by kernel_rfl
theorem laidOut : laidOutB Tryd.prog = true := by kernel_rfl
theorem cells1 : Tryd.prog.cellsOf 3 = 1 := by kernel_rfl
theorem cellsB : Tryd.prog.cellsOf 4 = 1 := by kernel_rfl
theorem cellsT : Tryd.prog.cellsOf 30 = 2 := by kernel_rfl
theorem cellsS : Tryd.prog.cellsOf 28 = 1 := by kernel_rfl
theorem cellsL : Tryd.prog.cellsOf 32 = 5 := by kernel_rfl

theorem rTerm {n : Nat} (hn : n ≤ 1048576) : Tm.rd.Reads Tryd.prog 30 Tm.nodes (Tm.AllH fits) n :=
  reads_term cellsT Tryd.underlying30 rfl rfl Tryd.underlying3 cells1 Tryd.underlying28 cellsS n hn
theorem rLit {n : Nat} (hn : n ≤ 1048576) : Lt.rd.Reads Tryd.prog 32 Lt.big Lt.fit n :=
  reads_lit cellsL Tryd.underlying32 rfl rfl rfl Tryd.underlying4 cellsB rfl rfl cellsT (rTerm hn)

set_option maxRecDepth 100000 in
/-- WHAT THE WALK GIVES, FOR EVERY ARGUMENT WITHIN THE BOUND. -/
theorem contract (H : Type) (enc : TypeId × Value → H) (W : World) (base : Nat) (args : Array Value) (ds gs : List (DataW H)) (before : List MemPlace)
    (hval : ∀ (j : Nat) t v, Tryd.f3.params[j]? = some t → args[j]? = some v → Value.okWide Tryd.prog W .any base t v)
    (hW : DataW.Whole enc Tryd.prog Tryd.f3.params.toList Rows.clauseAlikeSpec.vars false W args.toList ds gs before)
    (hk : Rows.uptoSmall H (ds ++ gs) = true) :
    Calls Tryd.prog 3 args W fun e W' => ∃ v, e = .returned v ∧ Rows.clauseAlikeSpec.post enc Tryd.prog Tryd.f3 false true false false W args v W' := by
  have hW' := hW
  obtain ⟨p, q, hA0, hV, rfl, hfz, hnd⟩ := hW
  have hA : DataW.TrodAll enc Tryd.prog W 0 (fun _ => true) true Tryd.f3.params.toList args.toList ds p := hA0
  rw [Tryd.params3] at hA hval
  obtain ⟨v0, vs0, d0, ds0, p0, q0, hargs, rfl, rfl, h0, r0⟩ := trodAll_cons hA
  obtain ⟨v1, vs1, d1, ds1, p1, q1, rfl, rfl, rfl, h1, r1⟩ := trodAll_cons r0
  obtain ⟨v2, vs2, d2, ds2, p2, q2, rfl, rfl, rfl, h2, r2⟩ := trodAll_cons r1
  obtain ⟨v3, vs3, d3, ds3, p3, q3, rfl, rfl, rfl, h3, r3⟩ := trodAll_cons r2
  obtain ⟨rfl, rfl, rfl⟩ := trodAll_nil r3
  obtain rfl : args = #[v0, v1, v2, v3] := by cases args; simp_all
  obtain ⟨rfl, rfl⟩ := trodVars_none hV
  have hb := bulk_bound hk
  clear hk
  obtain ⟨A1, l1, c1, rfl⟩ := okWide_slice Tryd.underlying23 (hval 0 23 v0 rfl rfl)
  obtain ⟨A2, l2, c2, rfl⟩ := okWide_slice Tryd.underlying24 (hval 1 24 v1 rfl rfl)
  obtain ⟨A3, l3, c3, rfl⟩ := okWide_slice Tryd.underlying25 (hval 2 25 v2 rfl rfl)
  have h3k := h3
  obtain ⟨n3, rfl, rfl, rfl, w3⟩ := open_int Tryd.underlying3 (hval 3 3 v3 rfl rfl) h3
  simp only [List.append_nil, Rows.uptoBulkAll] at hb
  obtain ⟨k0, e0⟩ := h0
  obtain ⟨k1, e1⟩ := h1
  obtain ⟨k2, e2⟩ := h2
  have b3 := bulk_pos (H := H) (.lit (.int .i64 n3))
  obtain ⟨B1, u1, c, g1, s1, z1, y1, f1⟩ := (rLit (n := 1048576) (Nat.le_refl _)).slice Tryd.underlying23 (by rw [cellsL]; rfl) (by decide) e0 (by dsimp only; omega)
  obtain ⟨B2, u2, moves, g2, s2, z2, y2, f2⟩ := (reads_int Tryd.underlying3 1048576).slice Tryd.underlying24 (by rw [cells1]; rfl) (by decide) e1 (by dsimp only; omega)
  obtain ⟨B3, u3, turns, g3, s3, z3, y3, f3⟩ := (reads_bool Tryd.underlying4 1048576).slice Tryd.underlying25 (by rw [cellsB]; rfl) (by decide) e2 (by dsimp only; omega)
  simp only [Value.cells, List.cons.injEq, Value.slice.injEq, and_true] at g1 g2 g3
  obtain ⟨rfl, rfl, rfl⟩ := g1
  obtain ⟨rfl, rfl, rfl⟩ := g2
  obtain ⟨rfl, rfl, rfl⟩ := g3
  have hsz : ∀ x ∈ c, x.l.nodes ≤ 1099511627776 ∧ x.r.nodes ≤ 1099511627776 := by
    intro x hx
    have h4 : Lt.big x ≤ (c.map Lt.big).sum := sum_le hx
    simp only [Lt.big] at h4 z1
    omega
  have walk := main_any wakes_ok c moves turns n3 (fun _ => True) W A1 A2 A3 c1 c2 c3 s1 s2 s3 (fun x hx => f1 x hx) hsz
  refine walk.mono fun e W' ⟨he, hg⟩ => ?_
  subst he
  refine ⟨_, rfl, post_true (t := 4) rfl rfl (by kernel_rfl) Tryd.underlying4 laidOut ?_ hW' hg⟩
  rw [Tryd.params3]
  intro u hu
  simp only [List.mem_cons, List.not_mem_nil, or_false] at hu
  rcases hu with rfl | rfl | rfl | rfl
  all_goals exact ⟨by kernel_rfl, of_decide_eq_true (by kernel_rfl)⟩

/-- A WORLD FOR THE WITNESS: the settled one, the three tables holding what their initialisers lay. -/
def tab1 : Array Value := (([1, 10, 100, 1000, 10000, 100000, 1000000, 10000000, 100000000, 1000000000, 10000000000, 100000000000, 1000000000000, 10000000000000, 100000000000000, 1000000000000000, 10000000000000000, 100000000000000000, 1000000000000000000, 10000000000000000000] : List Int).map (Value.int .u64)).toArray
def tab2 : Array Value := (([0, 1, 28, 2, 29, 14, 24, 3, 30, 22, 20, 15, 25, 17, 4, 8, 31, 27, 13, 23, 21, 19, 16, 7, 26, 12, 18, 6, 11, 5, 10, 9] : List Int).map (Value.int .u8)).toArray
def tab3 : Array Value := (([0, 1, 56, 2, 57, 49, 28, 3, 61, 58, 42, 50, 38, 29, 17, 4, 62, 47, 59, 36, 45, 43, 51, 22, 53, 39, 33, 30, 24, 18, 12, 5, 63, 55, 48, 27, 60, 41, 37, 16, 46, 35, 44, 21, 52, 32, 23, 11, 54, 26, 40, 15, 34, 20, 31, 10, 25, 14, 19, 9, 13, 8, 7, 6] : List Int).map (Value.int .u8)).toArray
def put (cs : Array Value) : Obj → Obj
  | .cells _ t frozen => .cells cs t frozen
  | o => o
noncomputable def laidWorld (os : Os) : World :=
  { World.holding Tryd.prog os ⟨#[], #[], []⟩ with heap := (((World.holding Tryd.prog os ⟨#[], #[], []⟩).heap.modify 1 (put tab1)).modify 2 (put tab2)).modify 3 (put tab3) }
def wargs : Array Value := #[.slice none 0 0, .slice none 0 0, .slice none 0 0, .int .i64 0]
theorem laid_met (os : Os) : laidMet Tryd.prog Rows.clauseAlikeUptoRow.laid ((laidWorld os).forCall (fun _ _ => 0) ⟨#[], wargs, []⟩).memory :=
  laidMet_of_run' 8 (by kernel_rfl) (by kernel_rfl)
theorem reads (os : Os) {H : Type} (enc : TypeId × Value → H) : ∃ places, DataW.whole enc Tryd.prog ((laidWorld os).forCall (fun _ _ => 0) ⟨#[], wargs, []⟩).memory Tryd.f3.params.toList Rows.clauseAlikeSpec.vars false wargs.toList 8 = some ([.nil, .nil, .nil, .lit (.int .i64 0)], [], places) :=
  ⟨[], by kernel_rfl⟩

set_option maxRecDepth 100000 in
/-- THE SECOND FORM's STEP. -/
theorem liftedUpto (os : Os) (started : os.Started) (H : Type) (enc : TypeId × Value → H) (F : Stop.Interp) :
    ReturnsInHanded {} Tryd.checked os 3 .any ((Rows.OpenSpec.upto Rows.clauseAlikeSpec).preRow enc Tryd.prog Tryd.f3 Rows.clauseAlikeUptoRow.domain false Rows.clauseAlikeUptoRow.laid) (((Rows.OpenSpec.upto Rows.clauseAlikeSpec).at F).post enc Tryd.prog Tryd.f3 false true false false) := by
  obtain ⟨places, hx⟩ := reads os enc
  refine returnsInHanded_of_row (C := Tryd.checked) (s := Rows.OpenSpec.upto Rows.clauseAlikeSpec) own started (by kernel_rfl) Tryd.func3
    (witness_row_at (enc := enc) (C := Tryd.checked) false (laidWorld os) wargs rfl (by kernel_rfl) (by kernel_rfl) (by kernel_rfl)
      (OpenSpec.preRow_of_cond 8 hx (by kernel_rfl) (fun k hk => by cases hk; kernel_rfl) (by kernel_rfl) (laid_met os))) ?_
  intro W base args ds gs before hval hW _ hcond _ hL _ _
  exact contract H enc W base args ds gs before hval hW (hcond _ rfl)

theorem saidUpto : Rows.ClauseAlikeUptoSaid :=
  OpenClaim.holds_of_cond 3 Tryd.f3 rfl rfl rfl rfl rfl rfl rfl ⟨rfl, rfl, rfl, rfl, rfl⟩ rfl rfl rfl rfl rfl (by kernel_rfl) Tryd.func3 (by kernel_rfl)
    (of_decide_eq_true (by kernel_rfl)) (by unfold Func.isWrapper; first | (rw [if_pos (by decide +kernel)]; kernel_rfl) | (rw [if_neg (by decide +kernel)]; exact ⟨rfl, rfl⟩))
    (fun os started H enc _ F => by rw [OpenClaim.pre_eq_preRow]; exact liftedUpto os started H enc F)

/-- No parameter wants a stand-in; the program's own looks are off. -/
theorem plain (f : FuncId) (fn : Func) (hf : Tryd.pinned.checked.prog.funcNamed "syllogism/syllogismlaw11.ClauseAlike" = some f) (hfn : Tryd.pinned.checked.prog.funcs[f]? = some fn) :
    false = Tryd.pinned.checked.prog.looks [] ∧ ∀ (j : Nat) t, fn.params[j]? = some t → Tryd.pinned.checked.prog.wantsStandIn t = false := by
  obtain rfl : f = 3 := Option.some.inj ((show Tryd.prog.funcNamed "syllogism/syllogismlaw11.ClauseAlike" = some 3 by kernel_rfl).symm.trans hf) |>.symm
  obtain rfl : fn = Tryd.f3 := (Option.some.inj (Tryd.func3.symm.trans hfn)).symm
  refine ⟨by kernel_rfl, fun j t ht => ?_⟩
  rw [Tryd.params3] at ht
  have hm := Array.mem_of_getElem? ht
  simp only [List.mem_toArray, List.mem_cons, List.not_mem_nil, or_false] at hm
  have h1 : Tryd.prog.wantsStandIn 23 = false := by kernel_rfl
  have h2 : Tryd.prog.wantsStandIn 24 = false := by kernel_rfl
  have h3 : Tryd.prog.wantsStandIn 25 = false := by kernel_rfl
  have h4 : Tryd.prog.wantsStandIn 3 = false := by kernel_rfl
  rcases hm with rfl | rfl | rfl | rfl
  · exact h1
  · exact h2
  · exact h3
  · exact h4

/-- THE CARD. -/
theorem cardUpto : Rows.ClauseAlikeUptoCardSaid :=
  Claim7.holds_tied_plain_at .later [] _ _ _ _ saidUpto (fun _ h => by cases h) (by kernel_rfl) (fun _ h => by cases h) clauseAlikeUpto_row_tie rfl ⟨rfl, rfl⟩ (by kernel_rfl) rfl plain (by kernel_rfl)
#print axioms cardUpto
end Go.Proofs.YtkgkdfhipgjobaaDoor.clauseAlike
