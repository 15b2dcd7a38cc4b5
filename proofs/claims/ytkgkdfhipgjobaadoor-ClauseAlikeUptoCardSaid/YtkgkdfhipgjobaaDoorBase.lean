/- Base words for the walks: data that is read out of memory with the blocks that hold it; rows that the call itself makes; worlds that part in some blocks alone. No program in sight. -/
import Derived.WalkKit
import Derived.Maps.AppendAt
import Derived.Lib.Hide
import Derived.Deep.AppendLies
namespace Go.Proofs.YtkgkdfhipgjobaaDoor
open Go.RowKit
set_option linter.unusedVariables false

/-! ### worlds -/
/-- Only blocks of M, of those that were there, may hold something else. -/
structure Chg (M : Nat → Prop) (w w' : World) : Prop where
  os : w'.os = w.os
  tape : w'.tape = w.tape
  output : w'.output = w.output
  size : w.heap.size ≤ w'.heap.size
  block : ∀ k, k < w.heap.size → ¬ M k → w'.heap[k]? = w.heap[k]?
theorem Chg.refl (M : Nat → Prop) (w : World) : Chg M w w := ⟨rfl, rfl, rfl, Nat.le_refl _, fun _ _ _ => rfl⟩
theorem Chg.mono {M M' : Nat → Prop} {w w' : World} (h : Chg M w w') (hm : ∀ k, k < w.heap.size → M k → M' k) : Chg M' w w' :=
  ⟨h.os, h.tape, h.output, h.size, fun k hk hn => h.block k hk (fun hM => hn (hm k hk hM))⟩
/-- What is new to the first world may turn in the second step. -/
theorem Chg.trans {M M' : Nat → Prop} {a b c : World} (h : Chg M a b) (k : Chg M' b c) (hm : ∀ i, M' i → i < a.heap.size → M i) : Chg M a c :=
  ⟨k.os.trans h.os, k.tape.trans h.tape, k.output.trans h.output, Nat.le_trans h.size k.size, fun i hi hn =>
    (k.block i (Nat.lt_of_lt_of_le hi h.size) (fun hM => hn (hm i hM hi))).trans (h.block i hi hn)⟩
theorem Chg.of_below {w w' : World} (h : Below w.heap.size w w') (M : Nat → Prop) : Chg M w w' := ⟨h.os, h.tape, h.output, h.size, fun k hk _ => h.block k hk⟩
theorem Chg.below {w w' : World} {M : Nat → Prop} (h : Chg M w w') {B : Nat} (hM : ∀ k, M k → B ≤ k) (hB : B ≤ w.heap.size) : Below B w w' :=
  ⟨h.os, h.tape, h.output, h.size, fun k hk => h.block k (by omega) (fun hm => by have := hM k hm; omega)⟩
theorem Chg.cell {w w' : World} {M : Nat → Prop} (h : Chg M w w') {p : Addr} (hp : p.block < w.heap.size) (hM : ¬ M p.block) : w'.cell? p = w.cell? p := World.cell?_of_block (w := w) (h.block p.block hp hM)
theorem Chg.frozen {w w' : World} {M : Nat → Prop} (h : Chg M w w') {p : Addr} (hp : p.block < w.heap.size) (hM : ¬ M p.block) : w'.frozen? p = w.frozen? p := World.frozen?_of_block (w := w) (h.block p.block hp hM)
theorem Chg.alloc {M : Nat → Prop} {a w : World} (h : Chg M a w) (o : Obj) : Chg M a (w.alloc o) :=
  h.trans (M' := fun _ => False) ⟨rfl, rfl, rfl, by simp, fun k hk _ => Below.heap_alloc _ _ _ hk⟩ (fun _ h _ => h.elim)
theorem Chg.setCell {M : Nat → Prop} {a w : World} (h : Chg M a w) {p : Addr} (hp : p.block < a.heap.size → M p.block) (u : Value) : Chg M a (w.setCell p u) :=
  h.trans (M' := fun k => k = p.block) ⟨rfl, rfl, rfl, by simp [World.setCell], fun k _ hn => Below.heap_setCell _ _ _ _ hn⟩ (fun k hk hlt => by subst hk; exact hp hlt)
theorem Chg.drew {M : Nat → Prop} {a w : World} (h : Chg M a w) : Chg M a w.drew := ⟨h.os, h.tape, h.output, h.size, h.block⟩
theorem Chg.grown {M : Nat → Prop} {a w w' : World} (h : Chg M a w) {row : Option Nat} (hg : w.grownBy w' row) (hr : ∀ k, row = some k → k < a.heap.size → M k) : Chg M a w' :=
  h.trans (M' := fun k => row = some k) ⟨hg.os, hg.tape, hg.output, hg.size, fun k hk hn => hg.block k hk (fun e => hn e.symm)⟩ hr

/-- Below, as two rules for the walk. -/
theorem bcell {W w1 : World} {B : Nat} (hb : Below B W w1) : (∀ b o, b < B → w1.cell? ⟨b, o, none⟩ = W.cell? ⟨b, o, none⟩) ∧ (∀ b o, b < B → w1.frozen? ⟨b, o, none⟩ = W.frozen? ⟨b, o, none⟩) :=
  ⟨fun b o h => hb.cell (p := ⟨b, o, none⟩) h, fun b o h => hb.frozen (p := ⟨b, o, none⟩) h⟩

theorem below_set {B : Nat} {a w : World} (h : Below B a w) {g j : Nat} (hg : B ≤ g) (u : Value) : Below B a (w.setCell ⟨g, j, none⟩ u) := h.setCell (p := ⟨g, j, none⟩) hg u
theorem chg_set {M : Nat → Prop} {a w : World} (h : Chg M a w) {g j : Nat} (hp : g < a.heap.size → M g) (u : Value) : Chg M a (w.setCell ⟨g, j, none⟩ u) := h.setCell (p := ⟨g, j, none⟩) hp u
theorem size_set (w : World) (p : Addr) (u : Value) : (w.setCell p u).heap.size = w.heap.size := by simp [World.setCell]
/-! ### blocks -/
theorem blk_cell {w : World} {b : Nat} {cs : Array Value} {t : TypeId} {fr : Nat × Nat} (h : w.heap[b]? = some (.cells cs t fr)) (j : Nat) : w.cell? ⟨b, j, none⟩ = cs[j]? := by simp [World.cell?, h]
theorem blk_frozen {w : World} {b : Nat} {cs : Array Value} {t : TypeId} (h : w.heap[b]? = some (.cells cs t (0, 0))) (j : Nat) : w.frozen? ⟨b, j, none⟩ = false := by simp [World.frozen?, h]
theorem blk_lt {w : World} {b : Nat} {o : Obj} (h : w.heap[b]? = some o) : b < w.heap.size := (Array.getElem?_eq_some_iff.1 h).1
theorem blk_below {w w' : World} {B b : Nat} {o : Obj} (hb : Below B w w') (hB : b < B) (h : w.heap[b]? = some o) : w'.heap[b]? = some o := (hb.block b hB).trans h
theorem blk_set {w : World} {b : Nat} {cs : Array Value} {t : TypeId} {fr : Nat × Nat} (h : w.heap[b]? = some (.cells cs t fr)) (j : Nat) (v : Value) : (w.setCell ⟨b, j, none⟩ v).heap[b]? = some (.cells (cs.setIfInBounds j v) t fr) := by
  simp [World.setCell, Array.getElem?_modify, h]
theorem blk_set_ne {w : World} {b g : Nat} {j : Nat} {v : Value} (hn : b ≠ g) : (w.setCell ⟨g, j, none⟩ v).heap[b]? = w.heap[b]? := Below.heap_setCell w ⟨g, j, none⟩ v b hn
theorem blk_alloc_new (w : World) (o : Obj) : (w.alloc o).heap[w.heap.size]? = some o := by show (w.heap.push o)[w.heap.size]? = _; simp
theorem blk_alloc {w : World} {b : Nat} {o : Obj} (h : w.heap[b]? = some o) (o' : Obj) : (w.alloc o').heap[b]? = some o := (Below.heap_alloc w o' b (blk_lt h)).trans h
/-- A cell of a block that is not the last, behind new blocks. -/
theorem cell_new {w : World} {b j : Nat} {v : Value} (h : w.cell? ⟨b, j, none⟩ = some v) (o : Obj) : (w.alloc o).cell? ⟨b, j, none⟩ = some v := (World.cell?_alloc_lt w o ⟨b, j, none⟩ (World.block_lt_of_cell? w _ h)).trans h
/-- A cell of another block, behind one or two stores. -/
theorem cell_far1 {w : World} {b j g i : Nat} {u v : Value} (h : w.cell? ⟨b, j, none⟩ = some v) (hn : b ≠ g) : (w.setCell ⟨g, i, none⟩ u).cell? ⟨b, j, none⟩ = some v := (World.cell?_of_block (a := ⟨b, j, none⟩) (blk_set_ne hn)).trans h
theorem cell_far2 {w : World} {b j g i i' : Nat} {u u' v : Value} (h : w.cell? ⟨b, j, none⟩ = some v) (hn : b ≠ g) : ((w.setCell ⟨g, i, none⟩ u).setCell ⟨g, i', none⟩ u').cell? ⟨b, j, none⟩ = some v := cell_far1 (cell_far1 h hn) hn
/-- make([]T, m) for every world. -/
theorem make_rows {P : Program} (t e : TypeId) (z : Value) (size bytes : Nat) (ht : P.underlying t = some (.slice e)) (hinfo : (P.info? e).map (fun i => (i.zero, i.size, i.bytes)) = some (some z, size, bytes)) (m : Nat)
    (hb : bytes * m ≤ 281474976710656) (h63 : m ≤ 9223372036854775807) :
    ∀ w : World, (Instr.makeSlice t (.int .i64 (m : Int)) (.int .i64 (m : Int))).run P w = .ok (.slice (some ⟨w.heap.size, 0, none⟩) m m) (w.alloc (.cells (madeCells z.cells (m * size)) e)) := by
  intro w
  obtain ⟨i, hi, hzz⟩ := Option.map_eq_some_iff.1 hinfo
  simp only [Prod.mk.injEq] at hzz
  obtain ⟨hz, hs, hby⟩ := hzz
  have hb' : (i.bytes : Int) * (m : Int) ≤ 281474976710656 := by
    have h : ((i.bytes * m : Nat) : Int) ≤ 281474976710656 := by rw [hby]; omega
    rwa [Int.natCast_mul] at h
  have hr := run_make (P := P) w t e i z ht hi hz .i64 .i64 m m (by omega) (Int.le_refl _) hb' (by omega)
  simp only [Int.toNat_natCast, hs] at hr
  exact hr

/-! ### function values -/
/-- A call of a function value arrives at its function. -/
def Ent (P : Program) (f : FuncId) : Prop := ∀ (args : Array Value) (w : World), (callFunc f args).run P w = .ok (.enter f args) w
theorem ent_of {P : Program} {f : FuncId} {fn : Func} {c : Code} (hf : P.funcs[f]? = some fn) (hname : (fn.name == "runtime.NumGoroutine") = false) (hb : fn.body = some c) : Ent P f := by
  intro args w
  have h1 : fn.name ≠ "runtime.NumGoroutine" := by simpa using hname
  simp [callFunc, hf, h1, hb, mark]

/-! ### data that is read -/
def CellsAt (w : World) (b o : Nat) (cs : List Value) : Prop := ∀ j u, cs[j]? = some u → w.cell? ⟨b, o + j, none⟩ = some u
theorem CellsAt.keep {w w' : World} {b o : Nat} {cs : List Value} (h : CellsAt w b o cs) (hb : w'.heap[b]? = w.heap[b]?) : CellsAt w' b o cs :=
  fun j u hj => (World.cell?_of_block (a := ⟨b, o + j, none⟩) hb).trans (h j u hj)
theorem CellsAt.lt {w : World} {b o : Nat} {cs : List Value} (h : CellsAt w b o cs) (hc : 0 < cs.length) : b < w.heap.size :=
  World.block_lt_of_cell? w _ (h 0 cs[0] (by simp))
theorem CellsAt.c0 {w : World} {b o : Nat} {c : Value} {cs : List Value} (h : CellsAt w b o (c :: cs)) : w.cell? ⟨b, o, none⟩ = some c := h 0 c rfl
theorem CellsAt.c1 {w : World} {b o : Nat} {c0 c : Value} {cs : List Value} (h : CellsAt w b o (c0 :: c :: cs)) : w.cell? ⟨b, o + 1, none⟩ = some c := h 1 c rfl
theorem CellsAt.c2 {w : World} {b o : Nat} {c0 c1 c : Value} {cs : List Value} (h : CellsAt w b o (c0 :: c1 :: c :: cs)) : w.cell? ⟨b, o + 2, none⟩ = some c := h 2 c rfl
theorem CellsAt.c3 {w : World} {b o : Nat} {c0 c1 c2 c : Value} {cs : List Value} (h : CellsAt w b o (c0 :: c1 :: c2 :: c :: cs)) : w.cell? ⟨b, o + 3, none⟩ = some c := h 3 c rfl
theorem CellsAt.c4 {w : World} {b o : Nat} {c0 c1 c2 c3 c : Value} {cs : List Value} (h : CellsAt w b o (c0 :: c1 :: c2 :: c3 :: c :: cs)) : w.cell? ⟨b, o + 4, none⟩ = some c := h 4 c rfl
theorem CellsAt.nil (w : World) (b o : Nat) : CellsAt w b o [] := fun j u h => by simp at h
theorem CellsAt.cons {w : World} {b o : Nat} {c : Value} {cs : List Value} (h : w.cell? ⟨b, o, none⟩ = some c) (k : CellsAt w b (o + 1) cs) : CellsAt w b o (c :: cs) := by
  intro j u hj
  cases j with
  | zero => simp at hj; subst hj; exact h
  | succ j => have := k j u (by simpa using hj); rw [show o + (j + 1) = o + 1 + j by omega]; exact this
theorem CellsAt.blk {w : World} {b : Nat} {cs : Array Value} {t : TypeId} {fr : Nat × Nat} (h : w.heap[b]? = some (.cells cs t fr)) : CellsAt w b 0 cs.toList := fun j u hj => by
  rw [Nat.zero_add, blk_cell h]
  simpa using hj
theorem CellsAt.part {w : World} {b o : Nat} {c0 c1 : List Value} (h : CellsAt w b o (c0 ++ c1)) : CellsAt w b o c0 ∧ CellsAt w b (o + c0.length) c1 :=
  ⟨fun j u hj => h j u (by rw [List.getElem?_append_left (List.getElem?_eq_some_iff.1 hj).1]; exact hj),
   fun j u hj => by rw [Nat.add_assoc]; exact h (c0.length + j) u (by rw [List.getElem?_append_right (by omega)]; simpa using hj)⟩
theorem CellsAt.join {w : World} {b o : Nat} {c0 c1 : List Value} (h0 : CellsAt w b o c0) (h1 : CellsAt w b (o + c0.length) c1) : CellsAt w b o (c0 ++ c1) := by
  intro j u hj
  by_cases hl : j < c0.length
  · rw [List.getElem?_append_left hl] at hj; exact h0 j u hj
  · rw [List.getElem?_append_right (by omega)] at hj
    have := h1 _ u hj
    rwa [show o + c0.length + (j - c0.length) = o + j by omega] at this

/-- A kind of data: its cells in memory, in a world, all its blocks being D's. -/
structure Rd (α : Type) where
  sz : Nat
  bytes : Nat
  pos : 0 < sz
  K : (Nat → Prop) → World → α → List Value → Prop
  len : ∀ {D w x cs}, K D w x cs → cs.length = sz
  one : ∀ {D w x cs}, K D w x cs → ∀ u ∈ cs, u.oneCell' = true
  keep : ∀ {D : Nat → Prop} {w w' : World} {x cs}, (∀ k, D k → w'.heap[k]? = w.heap[k]?) → K D w x cs → K D w' x cs
  mono : ∀ {D D' : Nat → Prop} {w x cs}, (∀ k, D k → D' k) → K D w x cs → K D' w x cs
  bound : ∀ {D w x cs}, K D w x cs → K (fun k => D k ∧ k < w.heap.size) w x cs

namespace Rd
variable {α : Type} {d : Rd α} {D D' : Nat → Prop} {w w' : World}
/-- Data stays where its blocks stay. -/
theorem stay {x : α} {cs : List Value} (h : d.K D w x cs) (hk : ∀ k, D k → k < w.heap.size → w'.heap[k]? = w.heap[k]?) (hm : ∀ k, D k → D' k) : d.K D' w' x cs :=
  d.mono (fun k hk => hm k hk.1) (d.keep (fun k hk' => hk k hk'.1 hk'.2) (d.bound h))
theorem below {x : α} {cs : List Value} (h : d.K D w x cs) (hb : Below w.heap.size w w') : d.K D w' x cs := stay h (fun k _ hk => hb.block k hk) (fun _ h => h)
theorem chg {x : α} {cs : List Value} (h : d.K D w x cs) {M : Nat → Prop} (hb : Chg M w w') (hM : ∀ k, D k → ¬ M k) : d.K D w' x cs := stay h (fun k hd hk => hb.block k hk (hM k hd)) (fun _ h => h)

/-- Elements side by side from cell o of block b on. -/
def Row (d : Rd α) (D : Nat → Prop) (w : World) (xs : List α) (b o : Nat) : Prop := ∀ i x, xs[i]? = some x → ∃ cs, d.K D w x cs ∧ CellsAt w b (o + i * d.sz) cs
/-- A slice that is read. -/
structure Sl (d : Rd α) (D : Nat → Prop) (w : World) (A : Option Addr) (cap : Nat) (xs : List α) : Prop where
  le : xs.length ≤ cap
  mx : cap ≤ maxLen
  by_ : xs.length * d.bytes ≤ 140737488355328
  row : xs = [] ∨ ∃ b o, A = some ⟨b, o, none⟩ ∧ D b ∧ d.Row D w xs b o

theorem Row.get {xs : List α} {b o : Nat} (h : d.Row D w xs b o) (i : Nat) (hi : i < xs.length) : ∃ cs, d.K D w xs[i] cs ∧ CellsAt w b (o + i * d.sz) cs := h i xs[i] (by simp [hi])
theorem Row.keep {xs : List α} {b o : Nat} (h : d.Row D w xs b o) (hk : ∀ k, D k → w'.heap[k]? = w.heap[k]?) (hb : D b) : d.Row D w' xs b o := fun i x hx => by
  obtain ⟨cs, h1, h2⟩ := h i x hx
  exact ⟨cs, d.keep hk h1, h2.keep (hk b hb)⟩
theorem Row.mono {xs : List α} {b o : Nat} (h : d.Row D w xs b o) (hm : ∀ k, D k → D' k) : d.Row D' w xs b o := fun i x hx => by
  obtain ⟨cs, h1, h2⟩ := h i x hx
  exact ⟨cs, d.mono hm h1, h2⟩
theorem Row.bound {xs : List α} {b o : Nat} (h : d.Row D w xs b o) : d.Row (fun k => D k ∧ k < w.heap.size) w xs b o := fun i x hx => by
  obtain ⟨cs, h1, h2⟩ := h i x hx
  exact ⟨cs, d.bound h1, h2⟩
theorem Row.lt {xs : List α} {b o : Nat} (h : d.Row D w xs b o) (hx : xs ≠ []) : b < w.heap.size := by
  obtain ⟨cs, h1, h2⟩ := h.get 0 (List.length_pos_iff.2 hx)
  exact h2.lt (by rw [d.len h1]; exact d.pos)
theorem Sl.keep {A : Option Addr} {cap : Nat} {xs : List α} (h : d.Sl D w A cap xs) (hk : ∀ k, D k → w'.heap[k]? = w.heap[k]?) : d.Sl D w' A cap xs :=
  ⟨h.le, h.mx, h.by_, h.row.imp id fun ⟨b, o, e, hb, hr⟩ => ⟨b, o, e, hb, hr.keep hk hb⟩⟩
theorem Sl.mono {A : Option Addr} {cap : Nat} {xs : List α} (h : d.Sl D w A cap xs) (hm : ∀ k, D k → D' k) : d.Sl D' w A cap xs :=
  ⟨h.le, h.mx, h.by_, h.row.imp id fun ⟨b, o, e, hb, hr⟩ => ⟨b, o, e, hm b hb, hr.mono hm⟩⟩
theorem Sl.bound {A : Option Addr} {cap : Nat} {xs : List α} (h : d.Sl D w A cap xs) : d.Sl (fun k => D k ∧ k < w.heap.size) w A cap xs := by
  refine ⟨h.le, h.mx, h.by_, ?_⟩
  rcases h.row with e | ⟨b, o, e, hb, hr⟩
  · exact .inl e
  · rcases xs with _ | ⟨x, r⟩
    · exact .inl rfl
    · exact .inr ⟨b, o, e, ⟨hb, hr.lt (by simp)⟩, hr.bound⟩
theorem Sl.stay {A : Option Addr} {cap : Nat} {xs : List α} (h : d.Sl D w A cap xs) (hk : ∀ k, D k → k < w.heap.size → w'.heap[k]? = w.heap[k]?) (hm : ∀ k, D k → D' k) : d.Sl D' w' A cap xs :=
  (h.bound.keep (fun k hk' => hk k hk'.1 hk'.2)).mono (fun k hk => hm k hk.1)
theorem Sl.below {A : Option Addr} {cap : Nat} {xs : List α} (h : d.Sl D w A cap xs) (hb : Below w.heap.size w w') : d.Sl D w' A cap xs := h.stay (fun k _ hk => hb.block k hk) (fun _ h => h)
theorem Sl.chg {A : Option Addr} {cap : Nat} {xs : List α} (h : d.Sl D w A cap xs) {M : Nat → Prop} (hb : Chg M w w') (hM : ∀ k, D k → ¬ M k) : d.Sl D w' A cap xs := h.stay (fun k hd hk => hb.block k hk (hM k hd)) (fun _ h => h)
/-- Element i of a slice: where it lies. -/
theorem Sl.get {A : Option Addr} {cap : Nat} {xs : List α} (h : d.Sl D w A cap xs) (i : Nat) (hi : i < xs.length) : ∃ b o cs, A = some ⟨b, o, none⟩ ∧ D b ∧ d.K D w xs[i] cs ∧ CellsAt w b (o + i * d.sz) cs := by
  rcases h.row with rfl | ⟨b, o, e, hb, hr⟩
  · simp at hi
  · obtain ⟨cs, h1, h2⟩ := hr.get i hi
    exact ⟨b, o, cs, e, hb, h1, h2⟩
theorem Sl.nil (d : Rd α) (D : Nat → Prop) (w : World) (A : Option Addr) : d.Sl D w A 0 ([] : List α) := ⟨Nat.le_refl _, by simp [maxLen], by simp, .inl rfl⟩

/-! ### kinds -/
def scalar (bytes : Nat) (enc : α → Value) (h1 : ∀ x, (enc x).oneCell' = true) : Rd α where
  sz := 1
  bytes := bytes
  pos := by decide
  K := fun _ _ x cs => cs = [enc x]
  len := fun h => by rw [h]; rfl
  one := fun h u hu => by rw [h] at hu; rw [List.mem_singleton.1 hu]; exact h1 _
  keep := fun _ h => h
  mono := fun _ h => h
  bound := fun h => h
def int : Rd Int := scalar 8 (Value.int .i64) (fun _ => rfl)
def bool : Rd Bool := scalar 1 Value.bool (fun _ => rfl)
def string : Rd ByteArray := scalar 16 Value.string (fun _ => rfl)
def slice (d : Rd α) : Rd (List α) where
  sz := 1
  bytes := 24
  pos := by decide
  K := fun D w xs cs => ∃ A cap, cs = [.slice A xs.length cap] ∧ d.Sl D w A cap xs
  len := by rintro D w x cs ⟨A, c, rfl, _⟩; rfl
  one := by rintro D w x cs ⟨A, c, rfl, _⟩ u hu; rw [List.mem_singleton.1 hu]; rfl
  keep := by rintro D w w' x cs hk ⟨A, c, rfl, h⟩; exact ⟨A, c, rfl, h.keep hk⟩
  mono := by rintro D D' w x cs hm ⟨A, c, rfl, h⟩; exact ⟨A, c, rfl, h.mono hm⟩
  bound := by rintro D w x cs ⟨A, c, rfl, h⟩; exact ⟨A, c, rfl, h.bound⟩
/-- A pointer to data. -/
def ptr (d : Rd α) : Rd α where
  sz := 1
  bytes := 8
  pos := by decide
  K := fun D w x cs => ∃ b o cs', cs = [.pointer (some ⟨b, o, none⟩)] ∧ D b ∧ d.K D w x cs' ∧ CellsAt w b o cs'
  len := by rintro D w x cs ⟨b, o, c, rfl, _⟩; rfl
  one := by rintro D w x cs ⟨b, o, c, rfl, _⟩ u hu; rw [List.mem_singleton.1 hu]; rfl
  keep := by rintro D w w' x cs hk ⟨b, o, c, rfl, hb, h, hc⟩; exact ⟨b, o, c, rfl, hb, d.keep hk h, hc.keep (hk b hb)⟩
  mono := by rintro D D' w x cs hm ⟨b, o, c, rfl, hb, h, hc⟩; exact ⟨b, o, c, rfl, hm b hb, d.mono hm h, hc⟩
  bound := by rintro D w x cs ⟨b, o, c, rfl, hb, h, hc⟩; exact ⟨b, o, c, rfl, ⟨hb, hc.lt (by rw [d.len h]; exact d.pos)⟩, d.bound h, hc⟩
def pair {β : Type} (a : Rd α) (b : Rd β) : Rd (α × β) where
  sz := a.sz + b.sz
  bytes := a.bytes + b.bytes
  pos := Nat.add_pos_left a.pos _
  K := fun D w x cs => ∃ c0 c1, cs = c0 ++ c1 ∧ a.K D w x.1 c0 ∧ b.K D w x.2 c1
  len := by rintro D w x cs ⟨c0, c1, rfl, h0, h1⟩; rw [List.length_append, a.len h0, b.len h1]
  one := by
    rintro D w x cs ⟨c0, c1, rfl, h0, h1⟩ u hu
    rcases List.mem_append.1 hu with hu | hu
    · exact a.one h0 u hu
    · exact b.one h1 u hu
  keep := by rintro D w w' x cs hk ⟨c0, c1, rfl, h0, h1⟩; exact ⟨c0, c1, rfl, a.keep hk h0, b.keep hk h1⟩
  mono := by rintro D D' w x cs hk ⟨c0, c1, rfl, h0, h1⟩; exact ⟨c0, c1, rfl, a.mono hk h0, b.mono hk h1⟩
  bound := by rintro D w x cs ⟨c0, c1, rfl, h0, h1⟩; exact ⟨c0, c1, rfl, a.bound h0, b.bound h1⟩
/-- A Lean structure by its fields; its size in bytes may be padded. -/
def iso {β : Type} (d : Rd α) (f : β → α) (bytes : Nat) : Rd β where
  sz := d.sz
  bytes := bytes
  pos := d.pos
  K := fun D w x cs => d.K D w (f x) cs
  len := d.len
  one := d.one
  keep := d.keep
  mono := d.mono
  bound := d.bound

/-! ### rows that the call makes -/
/-- A slice value that the call itself made by append; its elements may lead to blocks of D that are not the row's own. -/
def Own (d : Rd α) (D : Nat → Prop) (e : TypeId) (w : World) (base : Nat) (v : Value) (xs : List α) : Prop :=
  ∃ cells, w.ownsRow base e d.sz v xs.length cells ∧ ∀ i x, xs[i]? = some x → ∃ cs, d.K (fun k => D k ∧ v.ownBlock ≠ some k) w x cs ∧ ∀ j u, cs[j]? = some u → cells[i * d.sz + j]? = some u
theorem Own.nil (d : Rd α) (D : Nat → Prop) (e : TypeId) (w : World) (base : Nat) : d.Own D e w base (.slice none 0 0) [] := ⟨[], ⟨by simp, .inl ⟨rfl, rfl⟩⟩, fun i x h => by simp at h⟩
theorem own_base {e : TypeId} {base size n : Nat} {v : Value} {cells : List Value} (h : w.ownsRow base e size v n cells) (k : Nat) (hk : v.ownBlock = some k) : base ≤ k ∧ k < w.heap.size := by
  rcases h.2 with ⟨rfl, _⟩ | ⟨g, cap, cur, rfl, hb, hh, _⟩
  · simp [Value.ownBlock] at hk
  · have : g = k := by simpa [Value.ownBlock] using hk
    subst this
    exact ⟨hb, (Array.getElem?_eq_some_iff.1 hh).1⟩
theorem Own.base {e : TypeId} {b : Nat} {v : Value} {xs : List α} (h : d.Own D e w b v xs) (k : Nat) (hk : v.ownBlock = some k) : b ≤ k ∧ k < w.heap.size := by
  obtain ⟨cells, h1, _⟩ := h
  exact own_base h1 k hk
theorem own_stay {e : TypeId} {base size n : Nat} {v : Value} {cells : List Value} (h : w.ownsRow base e size v n cells) (hm : ∀ k, v.ownBlock = some k → w'.heap[k]? = w.heap[k]?) : w'.ownsRow base e size v n cells := by
  obtain ⟨h1, h2⟩ := h
  refine ⟨h1, ?_⟩
  rcases h2 with h2 | ⟨g, cap, cur, rfl, hg, hh, r⟩
  · exact .inl h2
  · exact .inr ⟨g, cap, cur, rfl, hg, (hm g (by simp [Value.ownBlock])).trans hh, r⟩
/-- An own row stays where its block and its elements' blocks stay. -/
theorem Own.stay {e : TypeId} {b : Nat} {v : Value} {xs : List α} (h : d.Own D e w b v xs) (hk : ∀ k, D k ∨ v.ownBlock = some k → k < w.heap.size → w'.heap[k]? = w.heap[k]?) (hm : ∀ k, D k → D' k) : d.Own D' e w' b v xs := by
  obtain ⟨cells, h1, h2⟩ := h
  refine ⟨cells, own_stay h1 (fun k hv => hk k (.inr hv) (own_base h1 k hv).2), fun i x hx => ?_⟩
  obtain ⟨cs, h3, h4⟩ := h2 i x hx
  exact ⟨cs, Rd.stay h3 (fun k hd hlt => hk k (.inl hd.1) hlt) (fun k hd => ⟨hm k hd.1, hd.2⟩), h4⟩
theorem Own.below {e : TypeId} {b : Nat} {v : Value} {xs : List α} (h : d.Own D e w b v xs) (hb : Below w.heap.size w w') : d.Own D e w' b v xs := h.stay (fun k _ hk => hb.block k hk) (fun _ h => h)
theorem Own.chg {e : TypeId} {b : Nat} {v : Value} {xs : List α} (h : d.Own D e w b v xs) {M : Nat → Prop} (hb : Chg M w w') (hM : ∀ k, D k ∨ v.ownBlock = some k → ¬ M k) : d.Own D e w' b v xs := h.stay (fun k hd hk => hb.block k hk (hM k hd)) (fun _ h => h)
theorem Own.mono {e : TypeId} {b : Nat} {v : Value} {xs : List α} (h : d.Own D e w b v xs) (hm : ∀ k, D k → D' k) : d.Own D' e w b v xs := h.stay (fun _ _ _ => rfl) hm
theorem Own.form {e : TypeId} {b : Nat} {v : Value} {xs : List α} (h : d.Own D e w b v xs) : ∃ A cap, v = .slice A xs.length cap := by
  obtain ⟨cells, ⟨_, ho⟩, _⟩ := h
  rcases ho with ⟨rfl, h0⟩ | ⟨g, cap, cur, rfl, _⟩
  · exact ⟨none, 0, by rw [h0]⟩
  · exact ⟨_, cap, rfl⟩
/-- What append's law leaves, with one element more. -/
theorem Own.snoc {e : TypeId} {b : Nat} {v v' : Value} {xs : List α} {x : α} {cs cells0 : List Value} (h : d.Own D e w b v xs) (hc : ∃ c0, w.ownsRow b e d.sz v xs.length c0 ∧ cells0 = c0 ++ cs)
    (hown : w'.ownsRow b e d.sz v' (xs.length + 1) cells0) (hg : w.grownBy w' v.ownBlock) (hat : v'.ownBlock = v.ownBlock ∨ ∃ g, v'.ownBlock = some g ∧ w.heap.size ≤ g)
    (hx : d.K (fun k => D k ∧ v.ownBlock ≠ some k) w x cs) : d.Own D e w' b v' (xs ++ [x]) := by
  obtain ⟨cells, h1, h2⟩ := h
  obtain ⟨c0, h3, rfl⟩ := hc
  have hcc : cells = c0 := by
    obtain ⟨l1, r1⟩ := h1
    obtain ⟨l3, r3⟩ := h3
    rcases r1 with ⟨rfl, h0⟩ | ⟨g, cap, cur, rfl, _, hh, _, _, _, ht⟩
    · have e1 : cells = [] := by simpa [h0] using l1
      have e2 : c0 = [] := by simpa [h0] using l3
      rw [e1, e2]
    · rcases r3 with ⟨e', _⟩ | ⟨g', cap', cur', e', _, hh', _, _, _, ht'⟩
      · simp at e'
      · simp at e'
        obtain ⟨rfl, rfl⟩ := e'
        rw [hh] at hh'
        simp at hh'
        subst hh'
        exact ht.symm.trans ht'
  subst hcc
  have hl := h1.1
  have tr : ∀ k, (D k ∧ v.ownBlock ≠ some k) ∧ k < w.heap.size → D k ∧ v'.ownBlock ≠ some k := by
    rintro k ⟨⟨h5, h6⟩, h7⟩
    refine ⟨h5, ?_⟩
    rcases hat with e' | ⟨g, e', hge⟩
    · rw [e']; exact h6
    · rw [e']; simp; omega
  have mv : ∀ y c, d.K (fun k => D k ∧ v.ownBlock ≠ some k) w y c → d.K (fun k => D k ∧ v'.ownBlock ≠ some k) w' y c := fun y c hy =>
    d.mono tr (d.keep (fun k hk => hg.block k hk.2 (fun e' => hk.1.2 e'.symm)) (d.bound hy))
  refine ⟨_, by rw [List.length_append]; exact hown, fun i y hy => ?_⟩
  by_cases hi : i < xs.length
  · rw [List.getElem?_append_left hi] at hy
    obtain ⟨c, h3', h4⟩ := h2 i y hy
    refine ⟨c, mv y c h3', fun j u hj => ?_⟩
    have := h4 j u hj
    rw [List.getElem?_append_left (List.getElem?_eq_some_iff.1 this).1]
    exact this
  · rw [List.getElem?_append_right (by omega)] at hy
    have hi' : i = xs.length := by
      have := (List.getElem?_eq_some_iff.1 hy).1
      simp at this
      omega
    subst hi'
    simp at hy
    subst hy
    refine ⟨cs, mv x cs hx, fun j u hj => ?_⟩
    rw [List.getElem?_append_right (by omega), hl, Nat.add_sub_cancel_left]
    exact hj
/-- An own row is a slice that is read. -/
theorem Own.sl {e : TypeId} {b : Nat} {v : Value} {xs : List α} (h : d.Own D e w b v xs) (hcap : xs.length * d.bytes ≤ 140737488355328) :
    ∃ A cap, v = .slice A xs.length cap ∧ d.Sl (fun k => D k ∨ v.ownBlock = some k) w A cap xs := by
  obtain ⟨cells, ⟨hl, ho⟩, h2⟩ := h
  rcases ho with ⟨rfl, h0⟩ | ⟨g, cap, cur, rfl, hb, hh, hc1, hc2, hsz, ht⟩
  · obtain rfl : xs = [] := List.eq_nil_of_length_eq_zero h0
    exact ⟨none, 0, rfl, Sl.nil _ _ _ _⟩
  · refine ⟨_, cap, rfl, hc1, hc2, hcap, .inr ⟨g, 0, rfl, .inr (by simp [Value.ownBlock]), fun i x hx => ?_⟩⟩
    obtain ⟨cs, h3, h4⟩ := h2 i x hx
    refine ⟨cs, d.mono (fun k hk => .inl hk.1) h3, fun j u hj => ?_⟩
    have h5 := h4 j u hj
    rw [← ht] at h5
    have h6 : cur.toList[i * d.sz + j]? = some u := by
      rw [List.getElem?_take] at h5
      split at h5
      · exact h5
      · simp at h5
    rw [Nat.zero_add]
    simp only [World.cell?, hh]
    simpa using h6
section
variable {P : Program} {W : World} {ops : Array Oper} {rest : List Oper} {o : Oper} {a : Act} {Q : Exit → Act → World → Prop}
theorem own_arith {d : Rd α} {xs : List α} (hl : (xs.length + 1) * d.bytes ≤ 140737488355328) (hby : 0 < d.bytes) : xs.length + 1 ≤ maxLen := by
  have := Nat.le_trans (Nat.le_mul_of_pos_right (xs.length + 1) hby) hl
  simp only [maxLen]
  omega
/-- append(v, x) of one element, x's cells lying in block B: at an operation of a plain region. -/
theorem list_own (d : Rd α) (D : Nat → Prop) (t e : TypeId) (z : Value) (base : Nat) (hgd : o.guard = none) (s x : Operand)
    (ho : o.op = .call { callee := .builtin .append, args := #[s, x], argTypes := #[t, t] }) (ht : P.underlying t = some (.slice e))
    (hinfo : (P.info? e).map (fun i => (i.zero, i.size, i.bytes)) = some (some z, d.sz, d.bytes)) (hz : z.cells.size = d.sz) (hby : 0 < d.bytes)
    (v : Value) (xs : List α) (n : Nat) (hn : xs.length = n) (y : α) (cs : Array Value) (B : Nat) (hs : a.eval s = v) (hx : a.eval x = .slice (some ⟨B, 0, none⟩) 1 1) (hB : W.heap[B]? = some (.cells cs e (0, 0)))
    (hown : d.Own D e W base v xs) (hy : d.K (fun k => D k ∧ v.ownBlock ≠ some k) W y cs.toList) (hl : (n + 1) * d.bytes ≤ 140737488355328) (hbase : base ≤ W.heap.size)
    (h : ∀ g cap w', d.Own D e w' base (.slice (some ⟨g, 0, none⟩) (n + 1) cap) (xs ++ [y]) → W.grownBy w' v.ownBlock → (v.ownBlock = some g ∨ g = W.heap.size) → g < w'.heap.size →
      wpList P ops Q rest (a.put o.dst (.slice (some ⟨g, 0, none⟩) (n + 1) cap)) w') : wpList P ops Q (o :: rest) a W := by
  subst hn
  obtain ⟨i0, hi, hzz⟩ := Option.map_eq_some_iff.1 hinfo
  simp only [Prod.mk.injEq] at hzz
  obtain ⟨hz0, hz1, hz2⟩ := hzz
  obtain ⟨c0, ho1, _⟩ := id hown
  refine wpList_append_lies W hgd s x t ho base e i0 z d.sz d.bytes ht hi hz0 hz1 hz2 hz d.pos v xs.length c0 hs ho1 ⟨B, 0, none⟩ 1 1 cs.toList hx (by rw [d.len hy, Nat.one_mul]) (World.news_of_block hB) (d.one hy) (by decide) (own_arith hl hby) hl hbase _ rfl ?_
  intro g cap w' h1 h2 h3 h4
  exact h g cap w' (hown.snoc ⟨c0, ho1, rfl⟩ h1 h2 (by rcases h3 with h3 | h3; exact .inl (by rw [h3]; rfl); exact .inr ⟨g, rfl, by omega⟩) hy) h2 h3 h4
/-- The same at a step of a region that draws. -/
theorem step_own {K : Act → World → Prop} {E : Prop} (d : Rd α) (D : Nat → Prop) (t e : TypeId) (z : Value) (base : Nat) (hgd : o.guard = none) (s x : Operand)
    (ho : o.op = .call { callee := .builtin .append, args := #[s, x], argTypes := #[t, t] }) (ht : P.underlying t = some (.slice e))
    (hinfo : (P.info? e).map (fun i => (i.zero, i.size, i.bytes)) = some (some z, d.sz, d.bytes)) (hz : z.cells.size = d.sz) (hby : 0 < d.bytes)
    (v : Value) (xs : List α) (n : Nat) (hn : xs.length = n) (y : α) (cs : Array Value) (B : Nat) (hs : a.eval s = v) (hx : a.eval x = .slice (some ⟨B, 0, none⟩) 1 1) (hB : W.heap[B]? = some (.cells cs e (0, 0)))
    (hown : d.Own D e W base v xs) (hy : d.K (fun k => D k ∧ v.ownBlock ≠ some k) W y cs.toList) (hl : (n + 1) * d.bytes ≤ 140737488355328) (hbase : base ≤ W.heap.size)
    (h : ∀ g cap w', d.Own D e w' base (.slice (some ⟨g, 0, none⟩) (n + 1) cap) (xs ++ [y]) → W.grownBy w' v.ownBlock → (v.ownBlock = some g ∨ g = W.heap.size) → g < w'.heap.size →
      K (a.put o.dst (.slice (some ⟨g, 0, none⟩) (n + 1) cap)) w') : if Region.wanted o (yielded ops a.tmps) = true then Oper.wp P o a W K Q else E := by
  subst hn
  obtain ⟨i0, hi, hzz⟩ := Option.map_eq_some_iff.1 hinfo
  simp only [Prod.mk.injEq] at hzz
  obtain ⟨hz0, hz1, hz2⟩ := hzz
  obtain ⟨c0, ho1, _⟩ := id hown
  refine step_append_lies W hgd s x t ho base e i0 z d.sz d.bytes ht hi hz0 hz1 hz2 hz d.pos v xs.length c0 hs ho1 ⟨B, 0, none⟩ 1 1 cs.toList hx (by rw [d.len hy, Nat.one_mul]) (World.news_of_block hB) (d.one hy) (by decide) (own_arith hl hby) hl hbase _ rfl ?_
  intro g cap w' h1 h2 h3 h4
  exact h g cap w' (hown.snoc ⟨c0, ho1, rfl⟩ h1 h2 (by rcases h3 with h3 | h3; exact .inl (by rw [h3]; rfl); exact .inr ⟨g, rfl, by omega⟩) hy) h2 h3 h4
end
/-- Element i of an own row: where it lies. -/
theorem Own.get {e : TypeId} {b : Nat} {A : Option Addr} {n cap : Nat} {xs : List α} (h : d.Own D e w b (.slice A n cap) xs) (i : Nat) (hi : i < xs.length) :
    ∃ g cs, A = some ⟨g, 0, none⟩ ∧ b ≤ g ∧ g < w.heap.size ∧ d.K (fun k => D k ∧ (Value.slice A n cap).ownBlock ≠ some k) w xs[i] cs ∧ CellsAt w g (i * d.sz) cs ∧ n = xs.length ∧ n ≤ cap ∧ cap ≤ maxLen := by
  obtain ⟨cells, ⟨hl, ho⟩, h2⟩ := h
  rcases ho with ⟨e', h0⟩ | ⟨g, c, cur, e', hb, hh, hc1, hc2, hsz, ht⟩
  · omega
  · simp only [Value.slice.injEq] at e'
    obtain ⟨rfl, rfl, rfl⟩ := e'
    obtain ⟨cs, h3, h4⟩ := h2 i xs[i] (by simp [hi])
    refine ⟨g, cs, rfl, hb, blk_lt hh, h3, fun j u hj => ?_, rfl, hc1, hc2⟩
    have h5 := h4 j u hj
    rw [← ht, List.getElem?_take] at h5
    split at h5
    · rw [blk_cell hh]; simpa using h5
    · simp at h5
theorem Own.len {e : TypeId} {b : Nat} {A : Option Addr} {n cap : Nat} {xs : List α} (h : d.Own D e w b (.slice A n cap) xs) : n = xs.length ∧ n ≤ cap ∧ cap ≤ maxLen := by
  obtain ⟨cells, ⟨hl, ho⟩, h2⟩ := h
  rcases ho with ⟨e', h0⟩ | ⟨g, c, cur, e', hb, hh, hc1, hc2, hsz, ht⟩
  · simp only [Value.slice.injEq] at e'
    obtain ⟨-, rfl, rfl⟩ := e'
    exact ⟨h0.symm, Nat.le_refl _, by simp [maxLen]⟩
  · simp only [Value.slice.injEq] at e'
    obtain ⟨-, rfl, rfl⟩ := e'
    exact ⟨rfl, hc1, hc2⟩
/-- A literal of one element is an own row. -/
theorem Own.one {e : TypeId} {b : Nat} {x : α} {cs : List Value} (hx : d.K (fun k => D k ∧ k ≠ w.heap.size) w x cs) (hb : b ≤ w.heap.size) : d.Own D e (w.alloc (.cells cs.toArray e)) b (.slice (some ⟨w.heap.size, 0, none⟩) 1 1) [x] := by
  refine ⟨cs, ⟨by rw [d.len hx]; simp, .inr ⟨w.heap.size, 1, cs.toArray, rfl, hb, blk_alloc_new _ _, by simp, by simp [maxLen], by simp [d.len hx], by simp only [Nat.one_mul, List.length_singleton]; exact List.take_of_length_le (by rw [d.len hx]; exact Nat.le_refl _)⟩⟩, fun i y hy => ?_⟩
  cases i with
  | zero =>
    simp at hy
    subst hy
    refine ⟨cs, d.mono (fun k hk => ⟨hk.1, by simp [Value.ownBlock]; exact fun e => hk.2 e.symm⟩) (Rd.below hx ((Below.refl _ w).alloc (Nat.le_refl _) _)), fun j u hj => by simpa using hj⟩
  | succ i => simp at hy
/-- An own row cut to its head. -/
theorem Own.take {e : TypeId} {b : Nat} {A : Option Addr} {n cap : Nat} {xs : List α} (h : d.Own D e w b (.slice A n cap) xs) (k : Nat) (hk : k ≤ xs.length) : d.Own D e w b (.slice A k cap) (xs.take k) := by
  obtain ⟨cells, ⟨hl, ho⟩, h2⟩ := h
  have hkl : (xs.take k).length = k := by rw [List.length_take]; omega
  rcases ho with ⟨e', h0⟩ | ⟨g, c, cur, e', hb, hh, hc1, hc2, hsz, ht⟩
  · simp only [Value.slice.injEq] at e'
    obtain ⟨rfl, rfl, rfl⟩ := e'
    obtain rfl : k = 0 := by omega
    exact ⟨[], ⟨by simp, .inl ⟨rfl, by simp⟩⟩, fun i x h => by simp at h⟩
  · simp only [Value.slice.injEq] at e'
    obtain ⟨rfl, rfl, rfl⟩ := e'
    have hle : k * d.sz ≤ xs.length * d.sz := Nat.mul_le_mul_right _ hk
    have hcur : (cur.toList.take (k * d.sz)).length = k * d.sz := by
      have h3 : xs.length * d.sz ≤ cur.size := by rw [hsz]; exact Nat.mul_le_mul_right _ hc1
      simp only [List.length_take, Array.length_toList]
      omega
    refine ⟨cur.toList.take (k * d.sz), ⟨by rw [hkl]; exact hcur, .inr ⟨g, cap, cur, by rw [hkl], hb, hh, by omega, hc2, hsz, by rw [hkl]⟩⟩, fun i x hx => ?_⟩
    rw [List.getElem?_take] at hx
    split at hx
    · obtain ⟨cs, h3, h4⟩ := h2 i x hx
      refine ⟨cs, h3, fun j u hj => ?_⟩
      have h5 := h4 j u hj
      rw [← ht] at h5
      have hjl : j < d.sz := by rw [← d.len h3]; exact (List.getElem?_eq_some_iff.1 hj).1
      have hil : (i + 1) * d.sz ≤ k * d.sz := Nat.mul_le_mul_right _ (by omega)
      rw [Nat.add_mul] at hil
      rw [List.getElem?_take] at h5 ⊢
      rw [if_pos (by omega)]
      split at h5
      · exact h5
      · simp at h5
    · simp at hx
/-- A block of n elements that is being filled from its head on. -/
def Part (d : Rd α) (D : Nat → Prop) (e : TypeId) (w : World) (g n : Nat) (xs : List α) : Prop :=
  ∃ cur, w.heap[g]? = some (.cells cur e (0, 0)) ∧ cur.size = n * d.sz ∧ ∀ i x, xs[i]? = some x → ∃ cs, d.K (fun k => D k ∧ k ≠ g) w x cs ∧ ∀ j u, cs[j]? = some u → cur[i * d.sz + j]? = some u
theorem Part.blk {e : TypeId} {g n : Nat} {xs : List α} (h : d.Part D e w g n xs) : ∃ cur, w.heap[g]? = some (.cells cur e (0, 0)) ∧ cur.size = n * d.sz := by obtain ⟨cur, h1, h2, _⟩ := h; exact ⟨cur, h1, h2⟩
theorem Part.start {e : TypeId} (d : Rd α) (D : Nat → Prop) (w : World) (n : Nat) (z : Array Value) : d.Part D e (w.alloc (.cells (madeCells z (n * d.sz)) e)) w.heap.size n [] := ⟨_, blk_alloc_new _ _, size_madeCells _ _, fun i x h => by simp at h⟩
theorem Part.stay {e : TypeId} {g n : Nat} {xs : List α} (h : d.Part D e w g n xs) (hk : ∀ k, D k ∨ k = g → k < w.heap.size → w'.heap[k]? = w.heap[k]?) (hm : ∀ k, D k → D' k) : d.Part D' e w' g n xs := by
  obtain ⟨cur, h1, h2, h3⟩ := h
  refine ⟨cur, (hk g (.inr rfl) (blk_lt h1)).trans h1, h2, fun i x hx => ?_⟩
  obtain ⟨cs, h4, h5⟩ := h3 i x hx
  exact ⟨cs, Rd.stay h4 (fun k hd hlt => hk k (.inl hd.1) hlt) (fun k hd => ⟨hm k hd.1, hd.2⟩), h5⟩
theorem Part.below {e : TypeId} {g n : Nat} {xs : List α} (h : d.Part D e w g n xs) (hb : Below w.heap.size w w') : d.Part D e w' g n xs := h.stay (fun k _ hk => hb.block k hk) (fun _ h => h)
theorem Part.chg {e : TypeId} {g n : Nat} {xs : List α} (h : d.Part D e w g n xs) {M : Nat → Prop} (hb : Chg M w w') (hM : ∀ k, D k ∨ k = g → ¬ M k) : d.Part D e w' g n xs := h.stay (fun k hd hk => hb.block k hk (hM k hd)) (fun _ h => h)
/-- The next element's cells have been stored. -/
theorem Part.snoc {e : TypeId} {g n : Nat} {xs : List α} {x : α} {cs : List Value} {cur' : Array Value} (h : d.Part D e w g n xs) (hx : d.K (fun k => D k ∧ k ≠ g) w x cs) (hb : w'.heap[g]? = some (.cells cur' e (0, 0)))
    (hc : ∀ cur, w.heap[g]? = some (.cells cur e (0, 0)) → cur'.size = cur.size ∧ (∀ j u, cs[j]? = some u → cur'[xs.length * d.sz + j]? = some u) ∧ ∀ i, i < xs.length * d.sz → cur'[i]? = cur[i]?)
    (hk : ∀ k, D k → k ≠ g → w'.heap[k]? = w.heap[k]?) : d.Part D e w' g n (xs ++ [x]) := by
  obtain ⟨cur, h1, h2, h3⟩ := h
  obtain ⟨c1, c2, c3⟩ := hc cur h1
  refine ⟨cur', hb, c1.trans h2, fun i y hy => ?_⟩
  by_cases hi : i < xs.length
  · rw [List.getElem?_append_left hi] at hy
    obtain ⟨c, h4, h5⟩ := h3 i y hy
    refine ⟨c, d.keep (fun k hd => hk k hd.1 hd.2) h4, fun j u hj => ?_⟩
    have hjl : j < d.sz := by rw [← d.len h4]; exact (List.getElem?_eq_some_iff.1 hj).1
    have hle : (i + 1) * d.sz ≤ xs.length * d.sz := Nat.mul_le_mul_right _ (by omega)
    rw [Nat.add_mul] at hle
    rw [c3 _ (by omega)]
    exact h5 j u hj
  · rw [List.getElem?_append_right (by omega)] at hy
    have hi' : i = xs.length := by
      have := (List.getElem?_eq_some_iff.1 hy).1
      simp at this
      omega
    subst hi'
    simp at hy
    subst hy
    exact ⟨cs, d.keep (fun k hd => hk k hd.1 hd.2) hx, c2⟩
/-- The whole block, filled, as a slice that is read. -/
theorem Part.sl {e : TypeId} {g n : Nat} {xs : List α} (h : d.Part D e w g n xs) (hn : xs.length = n) (hm : n ≤ maxLen) (hb : n * d.bytes ≤ 140737488355328) : d.Sl (fun k => D k ∨ k = g) w (some ⟨g, 0, none⟩) n xs := by
  obtain ⟨cur, h1, h2, h3⟩ := h
  refine ⟨by omega, hm, by rw [hn]; exact hb, .inr ⟨g, 0, rfl, .inr rfl, fun i x hx => ?_⟩⟩
  obtain ⟨cs, h4, h5⟩ := h3 i x hx
  exact ⟨cs, d.mono (fun k hd => .inl hd.1) h4, fun j u hj => by rw [blk_cell h1, Nat.zero_add]; exact h5 j u hj⟩
end Rd
end Go.Proofs.YtkgkdfhipgjobaaDoor
