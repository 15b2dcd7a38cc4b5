/- Maps with whole numbers for keys: what a lookup, a store and a delete do to a map's block. No program in sight. -/
import Derived.Test.YtkgkdfhipgjobaaDoorBase
namespace Go.Proofs.YtkgkdfhipgjobaaDoor
open Go.RowKit
set_option linter.unusedVariables false

/-- Entries with whole numbers for keys, in their order. -/
def IKeys (es : List MapEntry) (ps : List (Int × Value)) : Prop := es.map (fun e => (e.key, e.val)) = ps.map (fun p => (Value.int .i64 p.1, p.2))
def fnd (k : Int) : List (Int × Value) → Nat → Option (Nat × Value)
  | [], _ => none
  | p :: r, i => if k == p.1 then some (i, p.2) else fnd k r (i + 1)
theorem findNow_int : ∀ (es : List MapEntry) (ps : List (Int × Value)) (k : Int) (i : Nat), IKeys es ps → Instr.findNow (.int .i64) (.int .i64 k) es i = some (fnd k ps i)
  | [], [], k, i, _ => rfl
  | [], p :: r, k, i, h => by simp [IKeys] at h
  | e :: es, [], k, i, h => by simp [IKeys] at h
  | e :: es, p :: r, k, i, h => by
    simp only [IKeys, List.map_cons, List.cons.injEq, Prod.mk.injEq] at h
    obtain ⟨⟨h1, h2⟩, h3⟩ := h
    rw [Instr.findNow, h1]
    simp only [Instr.sameNow, if_true, fnd]
    by_cases hk : k == p.1
    · simp [hk, h2]
    · simp only [hk]
      exact findNow_int es r k (i + 1) h3
theorem fnd_none {k : Int} : ∀ {ps : List (Int × Value)} {i : Nat}, (∀ p ∈ ps, p.1 ≠ k) → fnd k ps i = none
  | [], _, _ => rfl
  | p :: r, i, h => by
    have h1 : (k == p.1) = false := by have := h p (by simp); simp; exact fun e => this e.symm
    rw [fnd, h1]
    exact fnd_none (fun q hq => h q (by simp [hq]))
theorem fnd_some {k : Int} : ∀ {ps : List (Int × Value)} {i j : Nat} (hj : j < ps.length), ps[j].1 = k → (∀ m (hm : m < j), ps[m].1 ≠ k) → fnd k ps i = some (i + j, ps[j].2)
  | p :: r, i, 0, _, h, _ => by
    simp only [List.getElem_cons_zero] at h ⊢
    simp [fnd, h]
  | p :: r, i, j + 1, hj, h, hn => by
    have h1 : (k == p.1) = false := by have := hn 0 (by omega); simp only [List.getElem_cons_zero] at this; simp; exact fun e => this e.symm
    rw [fnd, h1]
    simp only [List.getElem_cons_succ] at h ⊢
    have := fnd_some (ps := r) (i := i + 1) (j := j) (by simpa using hj) h (fun m hm => by have := hn (m + 1) (by omega); simpa using this)
    simp only [Bool.false_eq_true, if_false]
    rw [this]
    congr 2
    omega

/-- A block that is no cells, written anew. -/
def putO (w : World) (r : Nat) (o : Obj) : World := { w with heap := w.heap.setIfInBounds r o }
theorem putO_at {w : World} {r : Nat} {o o' : Obj} (h : w.heap[r]? = some o') : (putO w r o).heap[r]? = some o := by
  have := (Array.getElem?_eq_some_iff.1 h).1
  simp [putO, this]
theorem putO_ne {w : World} {r k : Nat} {o : Obj} (h : k ≠ r) : (putO w r o).heap[k]? = w.heap[k]? := by simp [putO, Ne.symm h]
theorem putO_size (w : World) (r : Nat) (o : Obj) : (putO w r o).heap.size = w.heap.size := by simp [putO]
theorem putO_chg (w : World) (r : Nat) (o : Obj) : Chg (· = r) w (putO w r o) := ⟨rfl, rfl, rfl, by rw [putO_size]; exact Nat.le_refl _, fun k _ hn => putO_ne hn⟩
section
variable {P : Program} {T K E : TypeId} {w : World} {r : Nat} {es : Array MapEntry} {z : Value} {clock : Nat} {ps : List (Int × Value)}
theorem findKey_int (hK : P.underlying K = some (.int .i64)) (hi : IKeys es.toList ps) (k : Int) (w' : World) : (Instr.findKey K (.int .i64 k) es.toList).run P w' = .ok (fnd k ps 0) w' := by
  simp [Instr.findKey, run_underlying hK, findNow_int _ _ k 0 hi]
theorem checkKey_int (hK : P.underlying K = some (.int .i64)) (b : Bool) (k : Int) (w' : World) : (Instr.checkKey b 10000 K (.int .i64 k)).run P w' = .ok () w' := by
  show (Instr.checkKey b (9999 + 1) K (.int .i64 k)).run P w' = _
  rw [Instr.checkKey]
  simp [run_underlying hK]
/-- m[k]. -/
theorem run_lookup_int (hT : P.underlying T = some (.map K E)) (hK : P.underlying K = some (.int .i64)) (hz : ∀ w, (zeroValue E).run P w = .ok z w) (hb : w.heap[r]? = some (.map es clock)) (hi : IKeys es.toList ps) (k : Int) :
    (Instr.lookup T (.map (some r)) (.int .i64 k) false).run P w = .ok (((fnd k ps 0).map (·.2)).getD z) w := by
  cases hf : fnd k ps 0 <;> simp [Instr.lookup, run_underlying hT, getObj, Sem.run, hb, checkKey_int hK, findKey_int hK hi, hf, hz]
/-- v, ok := m[k]. -/
theorem run_lookup_int_ok (hT : P.underlying T = some (.map K E)) (hK : P.underlying K = some (.int .i64)) (hz : ∀ w, (zeroValue E).run P w = .ok z w) (hb : w.heap[r]? = some (.map es clock)) (hi : IKeys es.toList ps) (k : Int) :
    (Instr.lookup T (.map (some r)) (.int .i64 k) true).run P w = .ok (.tuple #[((fnd k ps 0).map (·.2)).getD z, .bool (fnd k ps 0).isSome]) w := by
  cases hf : fnd k ps 0 <;> simp [Instr.lookup, run_underlying hT, getObj, Sem.run, hb, checkKey_int hK, findKey_int hK hi, hf, hz]
/-- m[k] = v, k being new. -/
theorem run_update_new (hT : P.underlying T = some (.map K E)) (hK : P.underlying K = some (.int .i64)) (hb : w.heap[r]? = some (.map es clock)) (hi : IKeys es.toList ps) (k : Int) (v : Value) (hn : ∀ p ∈ ps, p.1 ≠ k) :
    (Instr.mapUpdate T (.map (some r)) (.int .i64 k) v).run P w = .ok () (putO w r (.map (es.push ⟨.int .i64 k, v, clock⟩) (clock + 1))) := by
  simp [Instr.mapUpdate, run_underlying hT, getObj, setObj, Sem.run, hb, checkKey_int hK, findKey_int hK hi, fnd_none hn, putO]
/-- delete(m, k). -/
theorem run_delete_int (ty : TypeId) (hT : P.underlying T = some (.map K E)) (hK : P.underlying K = some (.int .i64)) (hb : w.heap[r]? = some (.map es clock)) (hi : IKeys es.toList ps) (k : Int) (j : Nat) (v : Value) (hf : fnd k ps 0 = some (j, v)) :
    (Builtin.delete_ #[T, K] ty #[.map (some r), .int .i64 k]).run P w = .ok (.tuple #[]) (putO w r (.map (es.eraseIdxIfInBounds j) clock)) := by
  simp [Builtin.delete_, run_underlying hT, getObj, setObj, Sem.run, hb, checkKey_int hK, findKey_int hK hi, hf, putO]
end
end Go.Proofs.YtkgkdfhipgjobaaDoor
