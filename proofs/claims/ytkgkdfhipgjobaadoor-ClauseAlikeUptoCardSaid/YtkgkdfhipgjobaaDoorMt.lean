/- What matching terms comes to: plain functions. No program in sight. -/
import Derived.Test.YtkgkdfhipgjobaaDoorSame
import Derived.Test.YtkgkdfhipgjobaaDoorPlain
import Derived.Test.YtkgkdfhipgjobaaDoorMap
namespace Go.Proofs.YtkgkdfhipgjobaaDoor
open Go.RowKit
set_option linter.unusedVariables false

abbrev Sg := List (Int × Tm)
def lookS (v : Int) (σ : Sg) : Option Tm := (σ.find? (fun p => p.1 == v)).map (·.2)
mutual
/-- A pattern is matched with a term, under what is bound. -/
def Tm.mt : Tm → Tm → Sg → Option Sg
  | .mk f l, t, σ =>
    if f < 0 then
      match lookS (-1 - f) σ with
      | none => some (σ ++ [(-1 - f, t)])
      | some u => if u.same t then some σ else none
    else if f = t.hd ∧ l.length = t.args.length then Tm.mts l t.args σ else none
def Tm.mts : List Tm → List Tm → Sg → Option Sg
  | [], _, σ => some σ
  | _ :: _, [], _ => none
  | p :: ps, t :: ts, σ => (Tm.mt p t σ).bind (Tm.mts ps ts)
end
theorem Tm.mt_mk (f : Int) (l : List Tm) (t : Tm) (σ : Sg) : (Tm.mk f l).mt t σ = if f < 0 then (match lookS (-1 - f) σ with | none => some (σ ++ [(-1 - f, t)]) | some u => if u.same t then some σ else none) else if f = t.hd ∧ l.length = t.args.length then Tm.mts l t.args σ else none := by rw [Tm.mt]
/-- What is still to do, the next first. -/
def mtodo : List (Tm × Tm) → Sg → Option Sg
  | [], σ => some σ
  | x :: r, σ => (Tm.mt x.1 x.2 σ).bind (mtodo r)
theorem mtodo_zip : ∀ (l r : List Tm) (rest : List (Tm × Tm)) (σ : Sg), l.length = r.length → mtodo (l.zip r ++ rest) σ = (Tm.mts l r σ).bind (mtodo rest)
  | [], [], rest, σ, _ => by simp [Tm.mts]
  | [], _ :: _, rest, σ, h => by simp at h
  | _ :: _, [], rest, σ, h => by simp at h
  | p :: ps, t :: ts, rest, σ, h => by
    rw [List.zip_cons_cons, List.cons_append, mtodo, Tm.mts]
    cases hm : Tm.mt p t σ with
    | none => rfl
    | some σ' =>
      simp only [Option.bind_some]
      exact mtodo_zip ps ts rest σ' (by simpa using h)
def todoN (l : List (Tm × Tm)) : Nat := (l.map fun x => x.1.nodes).sum
theorem todoN_zip : ∀ (l r : List Tm), l.length = r.length → todoN (l.zip r) = Tm.nodesL l
  | [], [], _ => rfl
  | [], _ :: _, h => by simp at h
  | _ :: _, [], h => by simp at h
  | p :: ps, t :: ts, h => by
    have := todoN_zip ps ts (by simpa using h)
    simp only [todoN, List.zip_cons_cons, List.map_cons, List.sum_cons, Tm.nodesL] at this ⊢
    rw [this]
theorem todoN_append (a b : List (Tm × Tm)) : todoN (a ++ b) = todoN a + todoN b := by simp [todoN]
theorem todoN_len (l : List (Tm × Tm)) : l.length ≤ todoN l := by
  induction l with
  | nil => simp
  | cons x r ih => have := x.1.nodes_pos; simp [todoN] at ih ⊢; omega
theorem Tm.len_nodesL (l : List Tm) : l.length ≤ Tm.nodesL l := by
  induction l with
  | nil => simp
  | cons t r ih => have := t.nodes_pos; simp only [List.length_cons, Tm.nodesL]; omega
theorem lookS_none {v : Int} {σ : Sg} : lookS v σ = none ↔ ∀ p ∈ σ, p.1 ≠ v := by
  simp [lookS, List.find?_eq_none]
theorem lookS_get {v : Int} {σ : Sg} {u : Tm} (h : lookS v σ = some u) : ∃ i, ∃ hi : i < σ.length, σ[i] = (v, u) ∧ ∀ m (hm : m < i), σ[m].1 ≠ v := by
  induction σ with
  | nil => simp [lookS] at h
  | cons p r ih =>
    by_cases hp : p.1 = v
    · refine ⟨0, by simp, ?_, fun m hm => by omega⟩
      have : lookS v (p :: r) = some p.2 := by simp [lookS, hp]
      rw [this] at h
      simp at h
      simp [← hp, ← h]
    · have : lookS v (p :: r) = lookS v r := by simp [lookS, hp]
      rw [this] at h
      obtain ⟨i, hi, h1, h2⟩ := ih h
      refine ⟨i + 1, by simpa using hi, by simpa using h1, fun m hm => ?_⟩
      cases m with
      | zero => simpa using hp
      | succ m => simpa using h2 m (by omega)
end Go.Proofs.YtkgkdfhipgjobaaDoor
