/- Terms, literals, signatures as data: Lean types, and how they lie in memory. No program in sight. -/
import Derived.Test.YtkgkdfhipgjobaaDoorBase
namespace Go.Proofs.YtkgkdfhipgjobaaDoor
open Go.RowKit
set_option linter.unusedVariables false

/-- A term: a symbol's number (or -1 - k of the variable k) and arguments. -/
inductive Tm where
  | mk (f : Int) (l : List Tm)
instance : Inhabited Tm := ⟨.mk 0 []⟩
namespace Tm
def hd : Tm → Int
  | .mk f _ => f
def args : Tm → List Tm
  | .mk _ l => l
mutual
def nodes : Tm → Nat
  | .mk _ l => 1 + nodesL l
def nodesL : List Tm → Nat
  | [] => 0
  | t :: r => nodes t + nodesL r
end
theorem nodes_mk (f : Int) (l : List Tm) : (Tm.mk f l).nodes = 1 + nodesL l := by rw [nodes]
theorem nodes_pos (t : Tm) : 0 < t.nodes := by cases t; rw [nodes_mk]; omega
theorem nodes_get {l : List Tm} (i : Nat) (h : i < l.length) : l[i].nodes ≤ nodesL l := by
  induction l generalizing i with
  | nil => simp at h
  | cons t r ih =>
    cases i with
    | zero => simp [nodesL]
    | succ i => have := ih i (by simpa using h); simp [nodesL]; omega
/-- Induction over terms and their arguments. -/
theorem ind {P : Tm → Prop} (h : ∀ f l, (∀ t ∈ l, P t) → P (.mk f l)) : ∀ t, P t := by
  have key : ∀ n (t : Tm), t.nodes ≤ n → P t := by
    intro n
    induction n with
    | zero => intro t ht; have := t.nodes_pos; omega
    | succ n ih =>
      intro t ht
      cases t with
      | mk f l =>
        refine h f l fun u hu => ih u ?_
        obtain ⟨i, hi, rfl⟩ := List.getElem_of_mem hu
        have := nodes_get i hi
        rw [nodes_mk] at ht
        omega
  exact fun t => key _ t (Nat.le_refl _)

/-- A term's two cells, what they lead to in blocks of D. -/
inductive K (D : Nat → Prop) (w : World) : Tm → List Value → Prop
  | nil (f : Int) (A : Option Addr) (cap : Nat) (hm : cap ≤ maxLen) : K D w (.mk f []) [.int .i64 f, .slice A 0 cap]
  | row (f : Int) (l : List Tm) (b o cap : Nat) (cells : Nat → List Value) (hl : 0 < l.length) (hc : l.length ≤ cap) (hm : cap ≤ maxLen) (hy : l.length * 32 ≤ 140737488355328) (hb : D b)
      (h : ∀ i (hi : i < l.length), K D w l[i] (cells i)) (hcell : ∀ i, i < l.length → CellsAt w b (o + i * 2) (cells i)) :
      K D w (.mk f l) [.int .i64 f, .slice (some ⟨b, o, none⟩) l.length cap]
theorem K.two {D : Nat → Prop} {w : World} {t : Tm} {cs : List Value} (h : K D w t cs) : ∃ A cap, cs = [.int .i64 t.hd, .slice A t.args.length cap] := by
  cases h with
  | nil f A cap hm => exact ⟨A, cap, rfl⟩
  | row f l b o cap cells hl hc hm hy hb h hcell => exact ⟨_, cap, rfl⟩
theorem K.keep {D : Nat → Prop} {w w' : World} {t : Tm} {cs : List Value} (hk : ∀ k, D k → w'.heap[k]? = w.heap[k]?) (h : K D w t cs) : K D w' t cs := by
  induction h with
  | nil f A cap hm => exact .nil f A cap hm
  | row f l b o cap cells hl hc hm hy hb h hcell ih => exact .row f l b o cap cells hl hc hm hy hb (fun i hi => ih i hi) (fun i hi => (hcell i hi).keep (hk b hb))
theorem K.mono {D D' : Nat → Prop} {w : World} {t : Tm} {cs : List Value} (hm' : ∀ k, D k → D' k) (h : K D w t cs) : K D' w t cs := by
  induction h with
  | nil f A cap hm => exact .nil f A cap hm
  | row f l b o cap cells hl hc hm hy hb h hcell ih => exact .row f l b o cap cells hl hc hm hy (hm' b hb) (fun i hi => ih i hi) hcell
theorem K.bound {D : Nat → Prop} {w : World} {t : Tm} {cs : List Value} (h : K D w t cs) : K (fun k => D k ∧ k < w.heap.size) w t cs := by
  induction h with
  | nil f A cap hm => exact .nil f A cap hm
  | row f l b o cap cells hl hc hm hy hb h hcell ih =>
    refine .row f l b o cap cells hl hc hm hy ⟨hb, ?_⟩ (fun i hi => ih i hi) hcell
    obtain ⟨A, c, e⟩ := (h 0 hl).two
    exact (hcell 0 hl).lt (by rw [e]; simp)
def rd : Rd Tm where
  sz := 2
  bytes := 32
  pos := by decide
  K := K
  len := fun h => by obtain ⟨A, cap, rfl⟩ := K.two h; rfl
  one := fun h u hu => by
    obtain ⟨A, cap, rfl⟩ := K.two h
    simp at hu
    rcases hu with rfl | rfl <;> rfl
  keep := K.keep
  mono := K.mono
  bound := K.bound
theorem K.open_ {D : Nat → Prop} {w : World} {f : Int} {l : List Tm} {cs : List Value} (h : K D w (.mk f l) cs) : ∃ A cap, cs = [.int .i64 f, .slice A l.length cap] ∧ rd.Sl D w A cap l := by
  cases h with
  | nil f A cap hm => exact ⟨A, cap, rfl, Nat.zero_le _, hm, by simp, .inl rfl⟩
  | row f l b o cap cells hl hc hm hy hb h hcell =>
    refine ⟨_, cap, rfl, hc, hm, hy, .inr ⟨b, o, rfl, hb, fun i x hx => ?_⟩⟩
    obtain ⟨hi, rfl⟩ := List.getElem?_eq_some_iff.1 hx
    exact ⟨_, h i hi, hcell i hi⟩
theorem K.mk_ {D : Nat → Prop} {w : World} (f : Int) {l : List Tm} {A : Option Addr} {cap : Nat} (h : rd.Sl D w A cap l) : K D w (.mk f l) [.int .i64 f, .slice A l.length cap] := by
  obtain ⟨hc, hm, hy, hr⟩ := h
  by_cases hl : l = []
  · subst hl
    exact .nil f A cap hm
  · obtain ⟨b, o, rfl, hb, hr⟩ := hr.resolve_left hl
    have hg : ∀ i, ∃ cs, ∀ hi : i < l.length, K D w l[i] cs ∧ CellsAt w b (o + i * 2) cs := fun i => by
      by_cases hi : i < l.length
      · obtain ⟨cs, h1, h2⟩ := hr.get i hi
        exact ⟨cs, fun _ => ⟨h1, h2⟩⟩
      · exact ⟨[], fun h => absurd h hi⟩
    exact .row f l b o cap (fun i => (hg i).choose) (List.length_pos_iff.2 hl) hc hm hy hb (fun i hi => ((hg i).choose_spec hi).1) (fun i hi => ((hg i).choose_spec hi).2)
/-- Argument i of a row: where it lies. -/
theorem get_ {D : Nat → Prop} {w : World} {A : Option Addr} {cap : Nat} {l : List Tm} (h : rd.Sl D w A cap l) (i : Nat) (hi : i < l.length) :
    ∃ b o A1 c1, A = some ⟨b, o, none⟩ ∧ D b ∧ K D w l[i] [.int .i64 l[i].hd, .slice A1 l[i].args.length c1] ∧ w.cell? ⟨b, o + i * 2, none⟩ = some (.int .i64 l[i].hd) ∧ w.cell? ⟨b, o + i * 2 + 1, none⟩ = some (.slice A1 l[i].args.length c1) := by
  obtain ⟨b, o, cs, e, hb, hK, hC⟩ := h.get i hi
  obtain ⟨A1, c1, rfl⟩ := K.two hK
  exact ⟨b, o, A1, c1, e, hb, hK, hC.c0, hC.c1⟩
end Tm

/-- A literal. -/
structure Lt where
  neg : Bool
  l : Tm
  r : Tm
instance : Inhabited Lt := ⟨⟨false, default, default⟩⟩
def Lt.rd : Rd Lt := Rd.iso (Rd.pair Rd.bool (Rd.pair Tm.rd Tm.rd)) (fun x => (x.neg, x.l, x.r)) 72
theorem Lt.open_ {D : Nat → Prop} {w : World} {x : Lt} {cs : List Value} (h : Lt.rd.K D w x cs) :
    ∃ A c A' c', cs = [.bool x.neg, .int .i64 x.l.hd, .slice A x.l.args.length c, .int .i64 x.r.hd, .slice A' x.r.args.length c'] ∧
      Tm.K D w x.l [.int .i64 x.l.hd, .slice A x.l.args.length c] ∧ Tm.K D w x.r [.int .i64 x.r.hd, .slice A' x.r.args.length c'] := by
  obtain ⟨c0, c1, rfl, rfl, c2, c3, rfl, h1, h2⟩ := h
  obtain ⟨A, c, rfl⟩ := Tm.K.two h1
  obtain ⟨A', c', rfl⟩ := Tm.K.two h2
  exact ⟨A, c, A', c', rfl, h1, h2⟩
theorem Lt.mk_ {D : Nat → Prop} {w : World} (n : Bool) {l r : Tm} {c1 c2 : List Value} (h1 : Tm.K D w l c1) (h2 : Tm.K D w r c2) : Lt.rd.K D w ⟨n, l, r⟩ (.bool n :: (c1 ++ c2)) :=
  ⟨[.bool n], c1 ++ c2, rfl, rfl, c1, c2, rfl, h1, h2⟩

theorem Lt.get_ {D : Nat → Prop} {w : World} {A : Option Addr} {cap : Nat} {l : List Lt} (h : Lt.rd.Sl D w A cap l) (i : Nat) (hi : i < l.length) :
    ∃ b o A1 c1 A2 c2, A = some ⟨b, o, none⟩ ∧ D b ∧ Tm.K D w l[i].l [.int .i64 l[i].l.hd, .slice A1 l[i].l.args.length c1] ∧ Tm.K D w l[i].r [.int .i64 l[i].r.hd, .slice A2 l[i].r.args.length c2] ∧
      w.cell? ⟨b, o + i * 5, none⟩ = some (.bool l[i].neg) ∧ w.cell? ⟨b, o + i * 5 + 1, none⟩ = some (.int .i64 l[i].l.hd) ∧ w.cell? ⟨b, o + i * 5 + 2, none⟩ = some (.slice A1 l[i].l.args.length c1) ∧
      w.cell? ⟨b, o + i * 5 + 3, none⟩ = some (.int .i64 l[i].r.hd) ∧ w.cell? ⟨b, o + i * 5 + 4, none⟩ = some (.slice A2 l[i].r.args.length c2) := by
  obtain ⟨b, o, cs, e, hb, hK, hC⟩ := h.get i hi
  obtain ⟨A1, c1, A2, c2, rfl, h1, h2⟩ := Lt.open_ hK
  exact ⟨b, o, A1, c1, A2, c2, e, hb, h1, h2, hC.c0, hC.c1, hC.c2, hC.c3, hC.c4⟩

/-- A symbol. -/
structure Sy where
  name : ByteArray
  arity : Int
  pred : Bool
def Sy.rd : Rd Sy := Rd.iso (Rd.pair Rd.string (Rd.pair Rd.int Rd.bool)) (fun x => (x.name, x.arity, x.pred)) 32
theorem Sy.open_ {D : Nat → Prop} {w : World} {x : Sy} {cs : List Value} (h : Sy.rd.K D w x cs) : cs = [.string x.name, .int .i64 x.arity, .bool x.pred] := by
  obtain ⟨c0, c1, rfl, rfl, c2, c3, rfl, rfl, rfl⟩ := h
  rfl
theorem Sy.mk_ (D : Nat → Prop) (w : World) (x : Sy) : Sy.rd.K D w x [.string x.name, .int .i64 x.arity, .bool x.pred] := ⟨[.string x.name], _, rfl, rfl, [.int .i64 x.arity], _, rfl, rfl, rfl⟩
theorem Sy.get_ {D : Nat → Prop} {w : World} {A : Option Addr} {cap : Nat} {l : List Sy} (h : Sy.rd.Sl D w A cap l) (i : Nat) (hi : i < l.length) :
    ∃ b o, A = some ⟨b, o, none⟩ ∧ D b ∧ w.cell? ⟨b, o + i * 3, none⟩ = some (.string l[i].name) ∧ w.cell? ⟨b, o + i * 3 + 1, none⟩ = some (.int .i64 l[i].arity) ∧ w.cell? ⟨b, o + i * 3 + 2, none⟩ = some (.bool l[i].pred) := by
  obtain ⟨b, o, cs, e, hb, hK, hC⟩ := h.get i hi
  obtain rfl := Sy.open_ hK
  exact ⟨b, o, e, hb, hC.c0, hC.c1, hC.c2⟩
end Go.Proofs.YtkgkdfhipgjobaaDoor
