/- ClauseAlike, but for wakes: what it answers. -/
import Derived.Test.YtkgkdfhipgjobaaDoorLaw
import Derived.Test.YtkgkdfhipgjobaaDoorSmall
import Derived.Test.YtkgkdfhipgjobaaDoorMove
import Derived.Deep.DeepCutAuto
import Derived.Outline
import Derived.Deep.CutBlock
import Derived.Deep.QuietTactic
import Derived.BigQuiet
import Derived.IntWalk
namespace Go.Proofs.YtkgkdfhipgjobaaDoor
open Go.RowKit
set_option linter.unusedVariables false
set_option linter.unusedSimpArgs false

def mnF (b : Int) : Int := if 1000 < b then 1000 else b
def byF (b : Int) : Int := if mnF b < 0 then 0 else mnF b
theorem byF_bd (b : Int) : 0 ≤ byF b ∧ byF b ≤ 1000 := by unfold byF mnF; split <;> split at * <;> omega
/-- What the first loop makes of a literal. -/
def madeLt (b : Int) (turns : List Bool) (i : Nat) (x : Lt) : Lt := if turns.getD i false then (x.ren (mv (byF b))).turn else x.ren (mv (byF b))
/-- What is asked of wakes. -/
def WakesOk : Prop := ∀ w : World, Calls Tryd.prog 6 #[] w fun e w' => e = .returned (.bool true) ∧ Below w.heap.size w w'

/-- Five cells of a block. -/
def Five (w : World) (g : Nat) (v0 v1 v2 v3 v4 : Value) : Prop := w.cell? ⟨g, 0, none⟩ = some v0 ∧ w.cell? ⟨g, 1, none⟩ = some v1 ∧ w.cell? ⟨g, 2, none⟩ = some v2 ∧ w.cell? ⟨g, 3, none⟩ = some v3 ∧ w.cell? ⟨g, 4, none⟩ = some v4
theorem Five.below {w w' : World} {g : Nat} {v0 v1 v2 v3 v4 : Value} (h : Five w g v0 v1 v2 v3 v4) (hb : Below w.heap.size w w') : Five w' g v0 v1 v2 v3 v4 := by
  have hl := World.block_lt_of_cell? w _ h.1
  have e := fun o => (bcell hb).1 g o hl
  exact ⟨(e 0).trans h.1, (e 1).trans h.2.1, (e 2).trans h.2.2.1, (e 3).trans h.2.2.2.1, (e 4).trans h.2.2.2.2⟩

theorem Five.sets {w : World} {g k : Nat} {v0 v1 v2 v3 v4 u0 u1 u2 u3 u4 : Value} (h : Five w g v0 v1 v2 v3 v4) (hn : g ≠ k) : Five (((((w.setCell ⟨k, 0, none⟩ u0).setCell ⟨k, 1, none⟩ u1).setCell ⟨k, 2, none⟩ u2).setCell ⟨k, 3, none⟩ u3).setCell ⟨k, 4, none⟩ u4) g v0 v1 v2 v3 v4 := by
  have e : ∀ {j v}, w.cell? ⟨g, j, none⟩ = some v → (((((w.setCell ⟨k, 0, none⟩ u0).setCell ⟨k, 1, none⟩ u1).setCell ⟨k, 2, none⟩ u2).setCell ⟨k, 3, none⟩ u3).setCell ⟨k, 4, none⟩ u4).cell? ⟨g, j, none⟩ = some v := fun h => cell_far1 (cell_far1 (cell_far1 (cell_far1 (cell_far1 h hn) hn) hn) hn) hn
  exact ⟨e h.1, e h.2.1, e h.2.2.1, e h.2.2.2.1, e h.2.2.2.2⟩
/-- The five cells of a new block have been stored. -/
theorem made_fin {wr w' : World} {g : Nat} {z0 z1 z2 z3 z4 v0 v1 v2 v3 v4 : Value} {t : TypeId} {l r : Tm} {cl cr : List Value} (hg : wr.heap.size < g) (hb : Below wr.heap.size wr w') (hz : w'.heap[g]? = some (.cells #[z0, z1, z2, z3, z4] t (0, 0)))
    (hl : Tm.K (fun q => wr.heap.size < q ∧ q ≠ g) w' l cl) (hr : Tm.K (fun q => wr.heap.size < q ∧ q ≠ g) w' r cr) (wx : World) (hx : wx = (((((w'.setCell ⟨g, 0, none⟩ v0).setCell ⟨g, 1, none⟩ v1).setCell ⟨g, 2, none⟩ v2).setCell ⟨g, 3, none⟩ v3).setCell ⟨g, 4, none⟩ v4)) :
    Below wr.heap.size wr wx ∧ wr.heap.size < g ∧ wx.heap[g]? = some (.cells #[v0, v1, v2, v3, v4] t (0, 0)) ∧ Tm.K (fun q => wr.heap.size < q ∧ q ≠ g) wx l cl ∧ Tm.K (fun q => wr.heap.size < q ∧ q ≠ g) wx r cr := by
  subst hx
  have hn : ∀ q, q ≠ g → (((((w'.setCell ⟨g, 0, none⟩ v0).setCell ⟨g, 1, none⟩ v1).setCell ⟨g, 2, none⟩ v2).setCell ⟨g, 3, none⟩ v3).setCell ⟨g, 4, none⟩ v4).heap[q]? = w'.heap[q]? := fun q hq => by
    rw [blk_set_ne hq, blk_set_ne hq, blk_set_ne hq, blk_set_ne hq, blk_set_ne hq]
  exact ⟨below_set (below_set (below_set (below_set (below_set hb (by omega) _) (by omega) _) (by omega) _) (by omega) _) (by omega) _, hg, blk_set (blk_set (blk_set (blk_set (blk_set hz 0 v0) 1 v1) 2 v2) 3 v3) 4 v4,
    hl.keep (fun q hq => hn q hq.2), hr.keep (fun q hq => hn q hq.2)⟩

/-- A new block with the five cells. -/
theorem made_new {wr w' : World} {v0 v1 v2 v3 v4 : Value} {t : TypeId} {l r : Tm} {cl cr : List Value} (hg : wr.heap.size < w'.heap.size) (hb : Below wr.heap.size wr w')
    (hl : Tm.K (fun q => wr.heap.size < q) w' l cl) (hr : Tm.K (fun q => wr.heap.size < q) w' r cr) :
    Below wr.heap.size wr (w'.alloc (.cells #[v0, v1, v2, v3, v4] t)) ∧ wr.heap.size < w'.heap.size ∧ (w'.alloc (.cells #[v0, v1, v2, v3, v4] t)).heap[w'.heap.size]? = some (.cells #[v0, v1, v2, v3, v4] t (0, 0)) ∧
      Tm.K (fun q => wr.heap.size < q ∧ q ≠ w'.heap.size) (w'.alloc (.cells #[v0, v1, v2, v3, v4] t)) l cl ∧ Tm.K (fun q => wr.heap.size < q ∧ q ≠ w'.heap.size) (w'.alloc (.cells #[v0, v1, v2, v3, v4] t)) r cr :=
  ⟨hb.alloc (by omega) _, hg, blk_alloc_new _ _, Rd.stay (d := Tm.rd) hl.bound (fun q hd hq => Below.heap_alloc _ _ _ hq) (fun q hq => ⟨hq.1, by have := hq.2; omega⟩), Rd.stay (d := Tm.rd) hr.bound (fun q hd hq => Below.heap_alloc _ _ _ hq) (fun q hq => ⟨hq.1, by have := hq.2; omega⟩)⟩

theorem infoLit : (Tryd.prog.info? 32).map (fun i => (i.zero, i.size, i.bytes)) = some (some (.agg #[.bool false, .int .i64 0, .slice none 0 0, .int .i64 0, .slice none 0 0]), 5, 72) := by kernel_rfl
theorem bool_get {D : Nat → Prop} {w : World} {A : Option Addr} {cap : Nat} {l : List Bool} (h : Rd.bool.Sl D w A cap l) (i : Nat) (hi : i < l.length) : ∃ b o, A = some ⟨b, o, none⟩ ∧ D b ∧ w.cell? ⟨b, o + i, none⟩ = some (.bool l[i]) := by
  obtain ⟨b, o, cs, e, hb, hK, hC⟩ := h.get i hi
  obtain rfl : cs = [.bool l[i]] := hK
  refine ⟨b, o, e, hb, ?_⟩
  have := hC.c0
  rwa [show Rd.bool.sz = 1 from rfl, Nat.mul_one] at this
theorem int_get {D : Nat → Prop} {w : World} {A : Option Addr} {cap : Nat} {l : List Int} (h : Rd.int.Sl D w A cap l) (i : Nat) (hi : i < l.length) : ∃ b o, A = some ⟨b, o, none⟩ ∧ D b ∧ w.cell? ⟨b, o + i, none⟩ = some (.int .i64 l[i]) := by
  obtain ⟨b, o, cs, e, hb, hK, hC⟩ := h.get i hi
  obtain rfl : cs = [.int .i64 l[i]] := hK
  refine ⟨b, o, e, hb, ?_⟩
  have := hC.c0
  rwa [show Rd.int.sz = 1 from rfl, Nat.mul_one] at this
/-- What the first loop has made after k rounds. -/
def Made (by_ : Int) (turns : List Bool) (c : List Lt) (w : World) (k : Nat) (wr : World) (d : Value) : Prop :=
  ∃ xs : List Lt, xs.length = k ∧ (∀ q (hq : q < xs.length) (hq' : q < c.length), xs[q] = madeLt by_ turns q c[q]) ∧ Lt.rd.Own (fun b => w.heap.size ≤ b) 32 wr w.heap.size d xs
theorem loop1_pre {by_ : Int} {turns : List Bool} {c : List Lt} {w wr w0 : World} {k cd g : Nat} {Ad : Option Addr} {xs : List Lt} {n : Bool} {l r : Tm} {c1 c2 : List Value} (hB : Below w.heap.size w wr) (hb : Below wr.heap.size wr w0)
    (hown : Lt.rd.Own (fun b => w.heap.size ≤ b) 32 wr w.heap.size (.slice Ad k cd) xs) (hl : Tm.K (fun q => wr.heap.size < q ∧ q ≠ g) w0 l c1) (hr : Tm.K (fun q => wr.heap.size < q ∧ q ≠ g) w0 r c2) (o : Obj) :
    Lt.rd.Own (fun b => w.heap.size ≤ b) 32 (w0.alloc o) w.heap.size (.slice Ad k cd) xs ∧ Lt.rd.K (fun b => w.heap.size ≤ b ∧ (Value.slice Ad k cd).ownBlock ≠ some b) (w0.alloc o) ⟨n, l, r⟩ (.bool n :: (c1 ++ c2)) := by
  have hs := hB.size
  have hs2 := hb.size
  refine ⟨hown.below (hb.alloc (by omega) _), Rd.below (d := Lt.rd) (Lt.mk_ n (hl.mono (fun q hq => ?_)) (hr.mono (fun q hq => ?_))) ((Below.refl _ _).alloc (Nat.le_refl _) _)⟩
  all_goals exact ⟨by omega, fun e => by have := (hown.base _ e).2; omega⟩
theorem loop1_rel {by_ : Int} {turns : List Bool} {c : List Lt} {w wr w0 w2 : World} {k cd : Nat} {Ad : Option Addr} {xs : List Lt} {y : Lt} {d : Value} (o : Obj) (hk : k < c.length) (hB : Below w.heap.size w wr) (hb : Below wr.heap.size wr w0) (hxl : xs.length = k)
    (hxs : ∀ q (hq : q < xs.length) (hq' : q < c.length), xs[q] = madeLt by_ turns q c[q]) (hy : madeLt by_ turns k c[k] = y)
    (hown : Lt.rd.Own (fun b => w.heap.size ≤ b) 32 wr w.heap.size (.slice Ad k cd) xs) (hown3 : Lt.rd.Own (fun b => w.heap.size ≤ b) 32 w2 w.heap.size d (xs ++ [y]))
    (hg : (w0.alloc o).grownBy w2 (Value.slice Ad k cd).ownBlock) : Below w.heap.size w w2 ∧ Made by_ turns c w (k + 1) w2 d := by
  have hs := hB.size
  have hs2 := hb.size
  refine ⟨((hB.trans (hb.mono hs)).alloc (by omega) o).grown hg (by simp; omega) (fun q e => (hown.base _ e).1), xs ++ [y], by simp [hxl], fun q hq hq' => ?_, hown3⟩
  by_cases h : q < xs.length
  · rw [List.getElem_append_left h]; exact hxs q h hq'
  · have : q = k := by simp at hq; omega
    subst this
    rw [List.getElem_append_right (by omega)]
    simp [hxl, hy]

theorem set5_get (cur : Array Value) (m i : Nat) (v0 v1 v2 v3 v4 : Value) (hm : m + 5 ≤ cur.size) : ((((((cur.setIfInBounds m v0).setIfInBounds (m + 1) v1).setIfInBounds (m + 2) v2).setIfInBounds (m + 3) v3).setIfInBounds (m + 4) v4))[i]? =
    if i = m then some v0 else if i = m + 1 then some v1 else if i = m + 2 then some v2 else if i = m + 3 then some v3 else if i = m + 4 then some v4 else cur[i]? := by
  simp only [Array.getElem?_setIfInBounds, Array.size_setIfInBounds]
  by_cases h0 : i = m
  · subst h0; simp; omega
  by_cases h1 : i = m + 1
  · subst h1; simp; omega
  by_cases h2 : i = m + 2
  · subst h2; simp; omega
  by_cases h3 : i = m + 3
  · subst h3; simp; omega
  by_cases h4 : i = m + 4
  · subst h4; simp; omega
  · simp [Ne.symm h0, Ne.symm h1, Ne.symm h2, Ne.symm h3, Ne.symm h4, h0, h1, h2, h3, h4]
/-- Element i of an own row of literals is stored. -/
theorem own5_put {D : Nat → Prop} {e : TypeId} {w : World} {b g n cap : Nat} {xs : List Lt} {x : Lt} {v0 v1 v2 v3 v4 : Value} (h : Lt.rd.Own D e w b (.slice (some ⟨g, 0, none⟩) n cap) xs) (i : Nat) (hi : i < xs.length)
    (hx : Lt.rd.K (fun k => D k ∧ k ≠ g) w x [v0, v1, v2, v3, v4]) :
    Lt.rd.Own D e (((((w.setCell ⟨g, i * 5, none⟩ v0).setCell ⟨g, i * 5 + 1, none⟩ v1).setCell ⟨g, i * 5 + 2, none⟩ v2).setCell ⟨g, i * 5 + 3, none⟩ v3).setCell ⟨g, i * 5 + 4, none⟩ v4) b (.slice (some ⟨g, 0, none⟩) n cap) (xs.set i x) := by
  obtain ⟨cells, ⟨hl, ho⟩, h2⟩ := h
  rcases ho with ⟨e', h0⟩ | ⟨g', c, cur, e', hb, hh, hc1, hc2, hsz, ht⟩
  · simp at e'
  · simp only [Value.slice.injEq, Option.some.injEq, Addr.mk.injEq, and_true] at e'
    obtain ⟨rfl, rfl, rfl⟩ := e'
    have hs5 : Lt.rd.sz = 5 := rfl
    rw [hs5] at hl hsz ht h2
    have hle : xs.length * 5 ≤ cap * 5 := Nat.mul_le_mul_right _ hc1
    have hcur := blk_set (blk_set (blk_set (blk_set (blk_set hh (i * 5) v0) (i * 5 + 1) v1) (i * 5 + 2) v2) (i * 5 + 3) v3) (i * 5 + 4) v4
    have hget := fun q => set5_get cur (i * 5) q v0 v1 v2 v3 v4 (by omega)
    have hcz : (((((cur.setIfInBounds (i * 5) v0).setIfInBounds (i * 5 + 1) v1).setIfInBounds (i * 5 + 2) v2).setIfInBounds (i * 5 + 3) v3).setIfInBounds (i * 5 + 4) v4).size = cur.size := by simp
    generalize ((((cur.setIfInBounds (i * 5) v0).setIfInBounds (i * 5 + 1) v1).setIfInBounds (i * 5 + 2) v2).setIfInBounds (i * 5 + 3) v3).setIfInBounds (i * 5 + 4) v4 = cur' at hcur hget hcz
    have hsize : cur'.size = cur.size := by
      have := hcz
      simpa using this
    refine ⟨cur'.toList.take (xs.length * 5), ⟨by simp [hs5]; omega, .inr ⟨g, cap, cur', by simp, hb, hcur, by simpa using hc1, hc2, by rw [hs5, hsize, hsz], by simp [hs5]⟩⟩, fun j y hy => ?_⟩
    have hn : ∀ q, q ≠ g → (((((w.setCell ⟨g, i * 5, none⟩ v0).setCell ⟨g, i * 5 + 1, none⟩ v1).setCell ⟨g, i * 5 + 2, none⟩ v2).setCell ⟨g, i * 5 + 3, none⟩ v3).setCell ⟨g, i * 5 + 4, none⟩ v4).heap[q]? = w.heap[q]? := fun q hq => by
      rw [blk_set_ne hq, blk_set_ne hq, blk_set_ne hq, blk_set_ne hq, blk_set_ne hq]
    have hob : ∀ k, (D k ∧ k ≠ g) → (D k ∧ (Value.slice (some ⟨g, 0, none⟩) xs.length cap).ownBlock ≠ some k) := fun k hk => ⟨hk.1, fun e => by simp [Value.ownBlock] at e; exact hk.2 e.symm⟩
    have hob' : ∀ k, (D k ∧ (Value.slice (some ⟨g, 0, none⟩) xs.length cap).ownBlock ≠ some k) → k ≠ g := fun k hk e => hk.2 (by subst e; rfl)
    have hjl : j < xs.length := by have := (List.getElem?_eq_some_iff.1 hy).1; simpa using this
    by_cases hji : j = i
    · subst hji
      rw [List.getElem?_set_self hjl] at hy
      obtain rfl := Option.some.inj hy
      refine ⟨_, Lt.rd.mono hob (Lt.rd.keep (fun k hk => hn k hk.2) hx), fun q u hq => ?_⟩
      have hql : q < 5 := by have := (List.getElem?_eq_some_iff.1 hq).1; simpa using this
      rw [hs5, List.getElem?_take, if_pos (by omega), Array.getElem?_toList, hget]
      rcases (show q = 0 ∨ q = 1 ∨ q = 2 ∨ q = 3 ∨ q = 4 by omega) with rfl | rfl | rfl | rfl | rfl <;> simpa using hq
    · rw [List.getElem?_set_ne (Ne.symm hji)] at hy
      obtain ⟨cs, h3, h4⟩ := h2 j y hy
      refine ⟨cs, Lt.rd.keep (fun k hk => hn k (hob' k hk)) h3, fun q u hq => ?_⟩
      have hql : q < 5 := by have := (List.getElem?_eq_some_iff.1 hq).1; rw [Lt.rd.len h3] at this; exact this
      have h5 := h4 q u hq
      rw [← ht, List.getElem?_take, if_pos (by omega), Array.getElem?_toList] at h5
      rw [hs5, List.getElem?_take, if_pos (by omega), Array.getElem?_toList, hget]
      rw [if_neg (by omega), if_neg (by omega), if_neg (by omega), if_neg (by omega), if_neg (by omega)]
      exact h5

/-- Literal i of an own row: where it lies. -/
theorem own_get5 {D : Nat → Prop} {e : TypeId} {w : World} {b n cap : Nat} {A : Option Addr} {xs : List Lt} (h : Lt.rd.Own D e w b (.slice A n cap) xs) (i : Nat) (hi : i < xs.length) :
    ∃ g A1 c1 A2 c2, A = some ⟨g, 0, none⟩ ∧ b ≤ g ∧ g < w.heap.size ∧ (∃ cur, w.heap[g]? = some (.cells cur e (0, 0))) ∧ Tm.K (fun k => D k ∧ k ≠ g) w xs[i].l [.int .i64 xs[i].l.hd, .slice A1 xs[i].l.args.length c1] ∧ Tm.K (fun k => D k ∧ k ≠ g) w xs[i].r [.int .i64 xs[i].r.hd, .slice A2 xs[i].r.args.length c2] ∧
      w.cell? ⟨g, i * 5, none⟩ = some (.bool xs[i].neg) ∧ w.cell? ⟨g, i * 5 + 1, none⟩ = some (.int .i64 xs[i].l.hd) ∧ w.cell? ⟨g, i * 5 + 2, none⟩ = some (.slice A1 xs[i].l.args.length c1) ∧
      w.cell? ⟨g, i * 5 + 3, none⟩ = some (.int .i64 xs[i].r.hd) ∧ w.cell? ⟨g, i * 5 + 4, none⟩ = some (.slice A2 xs[i].r.args.length c2) := by
  obtain ⟨g, cs, rfl, hb, hg, hK, hC, _⟩ := h.get i hi
  obtain ⟨cells, ⟨hl, ho⟩, h2⟩ := h
  have hblk : ∃ cur, w.heap[g]? = some (.cells cur e (0, 0)) := by
    rcases ho with ⟨e', h0⟩ | ⟨g', c, cur, e', hb, hh, _⟩
    · simp at e'
    · simp only [Value.slice.injEq, Option.some.injEq, Addr.mk.injEq, and_true] at e'
      obtain ⟨rfl, rfl, rfl⟩ := e'
      exact ⟨cur, hh⟩
  obtain ⟨A1, c1, A2, c2, rfl, h3, h4⟩ := Lt.open_ hK
  have hD : ∀ k, (D k ∧ (Value.slice (some ⟨g, 0, none⟩) n cap).ownBlock ≠ some k) → D k ∧ k ≠ g := fun k hk => ⟨hk.1, fun e => hk.2 (by subst e; rfl)⟩
  exact ⟨g, A1, c1, A2, c2, rfl, hb, hg, hblk, h3.mono hD, h4.mono hD, hC.c0, hC.c1, hC.c2, hC.c3, hC.c4⟩
theorem sets5_ne {w : World} {g m q : Nat} {v0 v1 v2 v3 v4 : Value} (hq : q ≠ g) : (((((w.setCell ⟨g, m, none⟩ v0).setCell ⟨g, m + 1, none⟩ v1).setCell ⟨g, m + 2, none⟩ v2).setCell ⟨g, m + 3, none⟩ v3).setCell ⟨g, m + 4, none⟩ v4).heap[q]? = w.heap[q]? := by
  rw [blk_set_ne hq, blk_set_ne hq, blk_set_ne hq, blk_set_ne hq, blk_set_ne hq]
/-- The places of a swap. -/
theorem mod_place (m : Int) (n : Nat) (hn : 2 ≤ n) : ∃ (r : Int) (b : Nat), m.tmod (n : Int) = r ∧ -(n : Int) < r ∧ r < n ∧ (r + (n : Int)).tmod (n : Int) = (b : Int) ∧ b < n := by
  refine ⟨m.tmod n, ((m.tmod n + n).tmod n).toNat, rfl, ?_, ?_, ?_, ?_⟩
  · have := Int.lt_tmod_of_pos m (b := (n : Int)) (by omega); exact this
  · exact Int.tmod_lt_of_pos m (by omega)
  · have h1 := Int.lt_tmod_of_pos m (b := (n : Int)) (by omega)
    have : 0 ≤ (m.tmod n + n).tmod (n : Int) := Int.tmod_nonneg _ (by omega)
    omega
  · have h1 := Int.lt_tmod_of_pos m (b := (n : Int)) (by omega)
    have h0 : 0 ≤ (m.tmod n + n).tmod (n : Int) := Int.tmod_nonneg _ (by omega)
    have h2 := Int.tmod_lt_of_pos (m.tmod n + n) (b := (n : Int)) (by omega)
    omega

def V48 (v : Int) : Prop := 0 ≤ v ∧ v < 48
theorem mv_V {b v : Int} (h0 : 0 ≤ b) (h1 : b ≤ 1000) (hv : V48 v) : mv b v = v + b := by unfold mv; unfold V48 at hv; rw [if_neg (by omega)]
theorem lowL_iff (m : Int) : ∀ l : List Tm, Tm.lowL m l = true ↔ ∀ t ∈ l, t.low m = true
  | [] => by simp [Tm.lowL]
  | t :: r => by
    rw [Tm.lowL]
    cases h : t.low m <;> simp [h, lowL_iff m r]
theorem low_ok : ∀ t : Tm, t.low 48 = true → t.plain = true ∧ t.AllH (vars V48) := by
  intro t
  induction t using Tm.ind with
  | h f l ih =>
    intro h
    rw [Tm.low_mk] at h
    rw [Tm.plain_mk, Tm.AllH_mk, Tm.AllL_iff]
    by_cases hf : f < 0
    · rw [if_pos hf] at h
      simp only [Bool.and_eq_true, decide_eq_true_eq, List.isEmpty_iff] at h
      obtain ⟨h1, rfl⟩ := h
      exact ⟨by simp [Tm.plains], fun _ => by unfold V48; omega, by simp⟩
    · rw [if_neg hf, lowL_iff] at h
      exact ⟨by rw [if_neg (by simp [hf]), plains_iff]; exact fun t ht => (ih t ht (h t ht)).1, fun h => absurd h hf, fun t ht => (ih t ht (h t ht)).2⟩
theorem ren_fits {b : Int} (h0 : 0 ≤ b) (h1 : b ≤ 1000) : ∀ t : Tm, t.AllH (vars V48) → t.AllH fits → (t.ren (mv b)).AllH fits := by
  intro t
  induction t using Tm.ind with
  | h f l ih =>
    intro hv hf
    rw [Tm.AllH_mk, Tm.AllL_iff] at hv hf
    rw [Tm.ren_mk, Tm.AllH_mk, Tm.AllL_iff]
    refine ⟨?_, fun t ht => ?_⟩
    · split
      · rename_i hneg
        have := hv.1 hneg
        rw [mv_V h0 h1 this]
        unfold V48 at this
        unfold fits
        omega
      · exact hf.1
    · obtain ⟨u, hu, rfl⟩ := List.mem_map.1 ht
      exact ih u hu (hv.2 u hu) (hf.2 u hu)
theorem nodesL_map {g : Tm → Tm} : ∀ l : List Tm, (∀ t ∈ l, (g t).nodes = t.nodes) → Tm.nodesL (l.map g) = Tm.nodesL l
  | [], _ => rfl
  | t :: r, h => by rw [List.map_cons, Tm.nodesL, Tm.nodesL, h t (by simp), nodesL_map r (fun t ht => h t (by simp [ht]))]
theorem nodes_ren (ρ : Int → Int) : ∀ t : Tm, (t.ren ρ).nodes = t.nodes := by
  intro t
  induction t using Tm.ind with
  | h f l ih => rw [Tm.ren_mk, Tm.nodes_mk, Tm.nodes_mk, nodesL_map l ih]
theorem small_parts {m : Int} {t : Tm} (h : t.smallB m = true) : t.nodes ≤ 300 ∧ t.low m = true := by
  simp only [Tm.smallB, Bool.and_eq_true, decide_eq_true_eq] at h
  exact ⟨h.1, h.2.2⟩
theorem about_mem {ρ : Int → Int} {c ds : List Lt} (h : About ρ c ds) (x : Lt) (hx : x ∈ ds) : ∃ y ∈ c, x = y.ren ρ ∨ x = (y.ren ρ).turn := by
  obtain ⟨π, π', p1, p2, hr⟩ := h.ex
  obtain ⟨j, hj, rfl⟩ := List.getElem_of_mem hx
  have hl := h.len
  have h2 := p2 j (by omega)
  have := hr (π' j) h2.1 (by rw [h2.2]; exact hj)
  simp only [h2.2] at this
  exact ⟨_, List.getElem_mem h2.1, this⟩
/-- What both calls of Alike want to know. -/
theorem both_hn {b : Int} (h0 : 0 ≤ b) (h1 : b ≤ 1000) {c ds : List Lt} (hs : c.all (Lt.smallB 48) = true) (hf : ∀ x ∈ c, x.l.AllH fits ∧ x.r.AllH fits) (h : About (mv b) c ds) :
    (∀ x ∈ c, x.l.AllH fits ∧ x.r.AllH fits ∧ x.l.nodes ≤ 1000000 ∧ x.r.nodes ≤ 1000000) ∧ (∀ x ∈ ds, x.l.AllH fits ∧ x.r.AllH fits ∧ x.l.nodes ≤ 1000000 ∧ x.r.nodes ≤ 1000000) := by
  have key : ∀ x ∈ c, (x.l.nodes ≤ 300 ∧ x.l.AllH (vars V48)) ∧ (x.r.nodes ≤ 300 ∧ x.r.AllH (vars V48)) := fun x hx => by
    have h2 := List.all_eq_true.1 hs x hx
    simp only [Lt.smallB, Bool.and_eq_true] at h2
    have a := small_parts h2.1
    have b := small_parts h2.2
    exact ⟨⟨a.1, (low_ok _ a.2).2⟩, b.1, (low_ok _ b.2).2⟩
  refine ⟨fun x hx => ⟨(hf x hx).1, (hf x hx).2, by have := (key x hx).1.1; omega, by have := (key x hx).2.1; omega⟩, fun x hx => ?_⟩
  obtain ⟨y, hy, e⟩ := about_mem h x hx
  obtain ⟨⟨n1, v1⟩, n2, v2⟩ := key y hy
  have f1 := ren_fits h0 h1 _ v1 (hf y hy).1
  have f2 := ren_fits h0 h1 _ v2 (hf y hy).2
  have m1 := nodes_ren (mv b) y.l
  have m2 := nodes_ren (mv b) y.r
  rcases e with rfl | rfl
  · exact ⟨f1, f2, by show (y.l.ren _).nodes ≤ _; omega, by show (y.r.ren _).nodes ≤ _; omega⟩
  · exact ⟨f2, f1, by show (y.r.ren _).nodes ≤ _; omega, by show (y.l.ren _).nodes ≤ _; omega⟩
theorem both_alike {b : Int} (h0 : 0 ≤ b) (h1 : b ≤ 1000) {c ds : List Lt} (hc : c.length ≤ 5) (hs : c.all (Lt.smallB 48) = true) (h : About (mv b) c ds) : alikeF c ds = true ∧ alikeF ds c = true := by
  refine about_alike V48 (mv b) (fun v hv => by rw [mv_V h0 h1 hv]; unfold V48 at hv; omega) (fun v v' hv hv' e => by rw [mv_V h0 h1 hv, mv_V h0 h1 hv'] at e; omega) c ds hc (fun x hx => ?_) h
  have h2 := List.all_eq_true.1 hs x hx
  simp only [Lt.smallB, Bool.and_eq_true] at h2
  exact ⟨low_ok _ (small_parts h2.1).2, low_ok _ (small_parts h2.2).2⟩

set_option maxRecDepth 100000 in
set_option maxHeartbeats 4000000 in
theorem main_any (wk : WakesOk) (c : List Lt) (moves : List Int) (turns : List Bool) (by_ : Int) (D : Nat → Prop) (w : World) (A1 A2 A3 : Option Addr) (c1 c2 c3 : Nat) (hc : Lt.rd.Sl D w A1 c1 c) (hm : Rd.int.Sl D w A2 c2 moves) (ht : Rd.bool.Sl D w A3 c3 turns)
    (hfit : ∀ x ∈ c, x.l.AllH fits ∧ x.r.AllH fits) (hn : ∀ x ∈ c, x.l.nodes ≤ 1099511627776 ∧ x.r.nodes ≤ 1099511627776) :
    Calls Tryd.prog 3 #[.slice A1 c.length c1, .slice A2 moves.length c2, .slice A3 turns.length c3, .int .i64 by_] w fun e w' => e = .returned (.bool true) ∧ Below w.heap.size w w' := by
  have HC := Lib.hid hc
  have HM := Lib.hid hm
  have HT := Lib.hid ht
  have HN := Lib.hid (And.intro hfit hn)
  have HW := Lib.hid wk
  clear hc hm ht hfit hn wk
  by_cases h5 : 5 < c.length
  · have hgt : decide (5 < c.length) = true := by simp; omega
    go_enter Tryd.func3, Tryd.ntmps3
    go_wp2_with fail
    refine (HW.out _).mono ?_
    rintro e w1 ⟨rfl, hb⟩
    go_wp2_with fail
    go_ret
    exact ⟨rfl, hb⟩
  · have hgt : decide (5 < c.length) = false := by simp; omega
    have HSm := Lib.hid (fun W (hb : Below w.heap.size w W) => ref11_Small 48 (by omega) (by omega) c D W A1 c1 (by omega) (HC.out.below hb) HN.out.2)
    cases hs : c.all (Lt.smallB 48) with
    | false =>
      rw [hs] at HSm
      have Hs := Lib.hid hs
      clear hs
      go_enter Tryd.func3, Tryd.ntmps3
      go_wp2_with fail
      refine (HSm.out _ (Below.refl _ _)).mono ?_
      rintro e w1 ⟨rfl, hb1⟩
      go_wp2_with fail
      refine (HW.out _).mono ?_
      rintro e w2 ⟨rfl, hb2⟩
      go_wp2_with fail
      go_ret
      exact ⟨rfl, hb1.trans (hb2.mono hb1.size)⟩
    | true =>
      rw [hs] at HSm
      have Hs := Lib.hid hs
      clear hs
      go_enter Tryd.func3, Tryd.ntmps3
      go_wp2_with fail
      refine (HSm.out _ (Below.refl _ _)).mono ?_
      rintro e w1 ⟨rfl, hb1⟩
      go_wp2_with fail
      go_loopw [9, 29] (fun d i wr => ∃ k : Nat, k ≤ c.length ∧ i = .int .i64 k ∧ Hid (Below w.heap.size w wr) ∧ Hid (Made by_ turns c w k wr d))
        (fun _ i _ => c.length - (intOf i).toNat)
      case atStart => exact ⟨0, Nat.zero_le _, rfl, Lib.hid hb1, Lib.hid ⟨[], rfl, by simp, Rd.Own.nil _ _ _ _ _⟩⟩
      case round =>
        obtain ⟨k, hk, rfl, hB, hX⟩ := hrel
        by_cases hlt : k < c.length
        · obtain ⟨b, o, B1, d1, B2, d2, rfl, hD, hK1, hK2, a0, a1, a2, a3, a4⟩ := Lt.get_ (HC.out.below hB.out) k hlt
          have hcap : c.length ≤ c1 ∧ c1 ≤ 9223372036854775807 := ⟨HC.out.le, HC.out.mx⟩
          have hsz := hB.out.size
          have HK := Lib.hid (And.intro hK1 hK2)
          have hby := byF_bd by_
          have HM1 := Lib.hid (fun W (hb : Below wr.heap.size wr W) => move_any (byF by_) hby.1 hby.2 c[k].l D W B1 d1 (HN.out.1 _ (List.getElem_mem hlt)).1 (Rd.below (d := Tm.rd) hK1 hb))
          have HM2 := Lib.hid (fun W (hb : Below wr.heap.size wr W) => move_any (byF by_) hby.1 hby.2 c[k].r D W B2 d2 (HN.out.1 _ (List.getElem_mem hlt)).2 (Rd.below (d := Tm.rd) hK2 hb))
          clear hK1 hK2 hby
          go_upto_region 7 with fail
          go_cut [12] (fun s12 wx => ∃ (g d3 d4 : Nat) (B3 B4 : Option Addr), s12 = .pointer (some ⟨g, 0, none⟩) ∧ Hid (Below wr.heap.size wr wx ∧ wr.heap.size < g ∧ wx.heap[g]? = some (.cells #[.bool c[k].neg, .int .i64 (c[k].l.ren (mv (byF by_))).hd, .slice B3 (c[k].l.ren (mv (byF by_))).args.length d3, .int .i64 (c[k].r.ren (mv (byF by_))).hd, .slice B4 (c[k].r.ren (mv (byF by_))).args.length d4] 32 (0, 0)) ∧
            Tm.K (fun q => wr.heap.size < q ∧ q ≠ g) wx (c[k].l.ren (mv (byF by_))) [.int .i64 (c[k].l.ren (mv (byF by_))).hd, .slice B3 (c[k].l.ren (mv (byF by_))).args.length d3] ∧ Tm.K (fun q => wr.heap.size < q ∧ q ≠ g) wx (c[k].r.ren (mv (byF by_))) [.int .i64 (c[k].r.ren (mv (byF by_))).hd, .slice B4 (c[k].r.ren (mv (byF by_))).args.length d4]))
          case first =>
            refine wp_region_held_drew (S := (fun w' => Five w' wr.heap.size (.bool c[k].neg) (.int .i64 c[k].l.hd) (.slice B1 c[k].l.args.length d1) (.int .i64 c[k].r.hd) (.slice B2 c[k].r.args.length d2))) (by kernel_rfl) ?_ (fun hHeld => ?_)
            · (try dsimp only [Five]); go_keep
            refine wpAnyH_take (i := 0) (v := ?_) rfl (by kernel_rfl) (by kernel_rfl) (by kernel_rfl) (fun _ _ _ h => h) (Or.inl ⟨by rfl, ?_⟩) hHeld ?_
            rotate_left
            · intro w hSw; (try dsimp only [Five] at hSw); go_simp; try (first | with_reducible rfl | rfl)
            try simp only [Act.put, List.setIfInBounds_toArray, List.set_cons_zero, List.set_cons_succ, List.getElem_toArray, List.getElem_cons_zero, List.getElem_cons_succ]
            refine wpAnyH_take (i := 1) (v := ?_) rfl (by kernel_rfl) (by kernel_rfl) (by kernel_rfl) (fun _ _ _ h => h) (Or.inl ⟨by rfl, ?_⟩) hHeld ?_
            rotate_left
            · intro w hSw; (try dsimp only [Five] at hSw); go_simp; try (first | with_reducible rfl | rfl)
            try simp only [Act.put, List.setIfInBounds_toArray, List.set_cons_zero, List.set_cons_succ, List.getElem_toArray, List.getElem_cons_zero, List.getElem_cons_succ]
            refine wpAnyH_take (i := 2) (v := ?_) rfl (by kernel_rfl) (by kernel_rfl) (by kernel_rfl) (fun _ _ _ h => h) (Or.inl ⟨by rfl, ?_⟩) hHeld ?_
            rotate_left
            · intro w hSw; (try dsimp only [Five] at hSw); go_simp; try (first | with_reducible rfl | rfl)
            try simp only [Act.put, List.setIfInBounds_toArray, List.set_cons_zero, List.set_cons_succ, List.getElem_toArray, List.getElem_cons_zero, List.getElem_cons_succ]
            refine wpAnyH_take (i := 3) (v := ?_) rfl (by kernel_rfl) (by kernel_rfl) (by kernel_rfl) (fun _ _ _ h => h) (Or.inl ⟨by rfl, ?_⟩) hHeld ?_
            rotate_left
            · intro w hSw; (try dsimp only [Five] at hSw); go_simp; try (first | with_reducible rfl | rfl)
            try simp only [Act.put, List.setIfInBounds_toArray, List.set_cons_zero, List.set_cons_succ, List.getElem_toArray, List.getElem_cons_zero, List.getElem_cons_succ]
            refine wpAnyH_take (i := 4) (v := ?_) rfl (by kernel_rfl) (by kernel_rfl) (by kernel_rfl) (fun _ _ _ h => h) (Or.inl ⟨by rfl, ?_⟩) hHeld ?_
            rotate_left
            · intro w hSw; (try dsimp only [Five] at hSw); go_simp; try (first | with_reducible rfl | rfl)
            try simp only [Act.put, List.setIfInBounds_toArray, List.set_cons_zero, List.set_cons_succ, List.getElem_toArray, List.getElem_cons_zero, List.getElem_cons_succ]
            refine wpAnyH_take (i := 5) (v := .int .i64 (mnF by_)) rfl (by kernel_rfl) (by kernel_rfl) (by kernel_rfl) (fun _ _ _ h => h) (Or.inl ⟨by rfl, ?_⟩) hHeld ?_
            · intro w hSw; (try dsimp only [Five] at hSw); go_simp; try (first | with_reducible rfl | rfl)
            try simp only [Act.put, List.setIfInBounds_toArray, List.set_cons_zero, List.set_cons_succ, List.getElem_toArray, List.getElem_cons_zero, List.getElem_cons_succ]
            refine wpAnyH_take (i := 6) (v := .int .i64 (byF by_)) rfl (by kernel_rfl) (by kernel_rfl) (by kernel_rfl) (fun _ _ _ h => h) (Or.inl ⟨by rfl, ?_⟩) hHeld ?_
            · intro w hSw; (try dsimp only [Five] at hSw); go_simp; try (first | with_reducible rfl | rfl)
            try simp only [Act.put, List.setIfInBounds_toArray, List.set_cons_zero, List.set_cons_succ, List.getElem_toArray, List.getElem_cons_zero, List.getElem_cons_succ]
            refine wpAnyH_take (i := 8) (v := ?_) rfl (by kernel_rfl) (by kernel_rfl) (by kernel_rfl) (fun _ _ _ h => h) (Or.inl ⟨by rfl, ?_⟩) hHeld ?_
            rotate_left
            · intro w hSw; (try dsimp only [Five] at hSw); go_simp; try (first | with_reducible rfl | rfl)
            try simp only [Act.put, List.setIfInBounds_toArray, List.set_cons_zero, List.set_cons_succ, List.getElem_toArray, List.getElem_cons_zero, List.getElem_cons_succ]
            refine wpAnyH_take (i := 9) (v := ?_) rfl (by kernel_rfl) (by kernel_rfl) (by kernel_rfl) (fun _ _ _ h => h) (Or.inl ⟨by rfl, ?_⟩) hHeld ?_
            rotate_left
            · intro w hSw; (try dsimp only [Five] at hSw); go_simp; try (first | with_reducible rfl | rfl)
            try simp only [Act.put, List.setIfInBounds_toArray, List.set_cons_zero, List.set_cons_succ, List.getElem_toArray, List.getElem_cons_zero, List.getElem_cons_succ]
            refine wpAnyH_take (i := 10) (v := ?_) rfl (by kernel_rfl) (by kernel_rfl) (by kernel_rfl) (fun _ _ _ h => h) (Or.inl ⟨by rfl, ?_⟩) hHeld ?_
            rotate_left
            · intro w hSw; (try dsimp only [Five] at hSw); go_simp; try (first | with_reducible rfl | rfl)
            try simp only [Act.put, List.setIfInBounds_toArray, List.set_cons_zero, List.set_cons_succ, List.getElem_toArray, List.getElem_cons_zero, List.getElem_cons_succ]
            refine wpAnyH_take (i := 11) (v := .int .i64 (mnF by_)) rfl (by kernel_rfl) (by kernel_rfl) (by kernel_rfl) (fun _ _ _ h => h) (Or.inl ⟨by rfl, ?_⟩) hHeld ?_
            · intro w hSw; (try dsimp only [Five] at hSw); go_simp; try (first | with_reducible rfl | rfl)
            try simp only [Act.put, List.setIfInBounds_toArray, List.set_cons_zero, List.set_cons_succ, List.getElem_toArray, List.getElem_cons_zero, List.getElem_cons_succ]
            refine wpAnyH_take (i := 12) (v := .int .i64 (byF by_)) rfl (by kernel_rfl) (by kernel_rfl) (by kernel_rfl) (fun _ _ _ h => h) (Or.inl ⟨by rfl, ?_⟩) hHeld ?_
            · intro w hSw; (try dsimp only [Five] at hSw); go_simp; try (first | with_reducible rfl | rfl)
            try simp only [Act.put, List.setIfInBounds_toArray, List.set_cons_zero, List.set_cons_succ, List.getElem_toArray, List.getElem_cons_zero, List.getElem_cons_succ]
            refine wpAnyH_ready (rs := [7, 15]) (by kernel_rfl) (by simp) ?_
            refine AllReadyH.cons rfl (fun K hK => ?_) ?_
            rotate_left
            · refine AllReadyH.cons rfl (fun K hK => ?_) AllReadyH.nil
              go_simp
              refine hK.out _ _ (hHeld.below ((Below.refl _ _).alloc (Nat.le_refl _) _)) (fun hHeld => ?_)
              clear hK K
              try simp only [Act.put, List.setIfInBounds_toArray, List.set_cons_zero, List.set_cons_succ, List.getElem_toArray, List.getElem_cons_zero, List.getElem_cons_succ]
              refine wpAnyH_ready (rs := [7]) (by kernel_rfl) (by simp) ?_
              refine AllReadyH.cons rfl (fun K hK => ?_) AllReadyH.nil
              go_simp
              go_at_call 7
              refine (HM1.out _ ((((Below.refl _ wr).alloc (Nat.le_refl _) _).alloc (by simp) _).drew)).mono ?_
              rintro e w2 ⟨L1, e1, rfl, hK1, hb1⟩
              have hz1 := hb1.size
              try simp only [World.size_alloc, World.size_drew] at hz1
              have hS1 := hHeld.below hb1
              go_wp2_with fail
              refine hK.out _ _ hS1 (fun hHeld => ?_)
              clear hK K
              try simp only [Act.put, List.setIfInBounds_toArray, List.set_cons_zero, List.set_cons_succ, List.getElem_toArray, List.getElem_cons_zero, List.getElem_cons_succ]
              have G1 : w2.heap[wr.heap.size + 1]? = some (.cells #[.bool false, .int .i64 0, .slice none 0 0, .int .i64 0, .slice none 0 0] 32 (0, 0)) := (hb1.block _ (by simp)).trans (blk_alloc_at _ _ _ (by simp))
              have B1' : Below wr.heap.size wr w2 := (((Below.refl _ wr).alloc (Nat.le_refl _) _).alloc (by simp) _).drew.trans (hb1.mono (by simp; omega))
              refine wpAnyH_ready (rs := [13]) (by kernel_rfl) (by simp) ?_
              refine AllReadyH.cons rfl (fun K hK => ?_) AllReadyH.nil
              go_simp
              go_at_call 7
              refine (HM2.out _ (B1')).mono ?_
              rintro e w3 ⟨L2, e2, rfl, hK2, hb2⟩
              have hz2 := hb2.size
              try simp only [World.size_alloc, World.size_drew] at hz2
              have hS2 := hHeld.below hb2
              go_wp2_with fail
              refine hK.out _ _ hS2 (fun hHeld => ?_)
              clear hK K
              try simp only [Act.put, List.setIfInBounds_toArray, List.set_cons_zero, List.set_cons_succ, List.getElem_toArray, List.getElem_cons_zero, List.getElem_cons_succ]
              refine wpAnyH_take (i := 14) (v := ?_) rfl (by kernel_rfl) (by kernel_rfl) (by kernel_rfl) (fun _ _ _ h => h) (Or.inl ⟨by rfl, ?_⟩) hHeld ?_
              rotate_left
              · intro w hSw; (try dsimp only [Five] at hSw); go_simp; try (first | with_reducible rfl | rfl)
              try simp only [Act.put, List.setIfInBounds_toArray, List.set_cons_zero, List.set_cons_succ, List.getElem_toArray, List.getElem_cons_zero, List.getElem_cons_succ]
              have G2 : w3.heap[wr.heap.size + 1]? = some (.cells #[.bool false, .int .i64 0, .slice none 0 0, .int .i64 0, .slice none 0 0] 32 (0, 0)) := (hb2.block _ (by omega)).trans G1
              have B2' : Below wr.heap.size wr w3 := B1'.trans (hb2.mono (by omega))
              have HFin := Lib.hid (made_fin (v0 := .bool c[k].neg) (v1 := .int .i64 (c[k].l.ren (mv (byF by_))).hd) (v2 := .slice L1 (c[k].l.ren (mv (byF by_))).args.length e1) (v3 := .int .i64 (c[k].r.ren (mv (byF by_))).hd) (v4 := .slice L2 (c[k].r.ren (mv (byF by_))).args.length e2) (by omega) B2' G2 (Rd.stay (d := Tm.rd) hK1 (fun q _ hq => hb2.block q hq) (fun q hq => by simp at hq; omega)) (Tm.K.mono (fun q hq => by omega) hK2) _ rfl)
              have cc := fun j => blk_cell G2 j
              have ff := fun j => blk_frozen G2 j
              have x0 := cc 0; have x1 := cc 1; have x2 := cc 2; have x3 := cc 3; have x4 := cc 4
              simp only [List.getElem?_toArray, List.getElem?_cons_zero, List.getElem?_cons_succ] at x0 x1 x2 x3 x4
              have y0 := ff 0; have y1 := ff 1; have y2 := ff 2; have y3 := ff 3; have y4 := ff 4
              clear cc ff G1 G2 hK1 hK2 hb1 hb2 B1' B2' hS1 hS2
              refine wpAnyH_ready (rs := [16]) (by kernel_rfl) (by simp) ?_
              refine AllReadyH.cons rfl (fun K hK => ?_) AllReadyH.nil
              go_simp
              refine hK.out _ _ (hHeld.sets (by omega)) (fun hHeld => ?_)
              clear hK K
              refine wpAnyH_done (by kernel_rfl) ?_ _
              go_wp2_with fail
              go_meet
              exact ⟨_, _, _, _, _, rfl, HFin⟩
            go_simp
            go_at_call 7
            refine (HM1.out _ (((Below.refl _ wr).alloc (Nat.le_refl _) _).drew)).mono ?_
            rintro e w2 ⟨L1, e1, rfl, hK1, hb1⟩
            have hz1 := hb1.size
            try simp only [World.size_alloc, World.size_drew] at hz1
            have hS1 := hHeld.below hb1
            go_wp2_with fail
            refine hK.out _ _ hS1 (fun hHeld => ?_)
            clear hK K
            try simp only [Act.put, List.setIfInBounds_toArray, List.set_cons_zero, List.set_cons_succ, List.getElem_toArray, List.getElem_cons_zero, List.getElem_cons_succ]
            have B1' : Below wr.heap.size wr w2 := ((Below.refl _ wr).alloc (Nat.le_refl _) _).drew.trans (hb1.mono (by simp))
            refine wpAnyH_ready (rs := [13, 15]) (by kernel_rfl) (by simp) ?_
            refine AllReadyH.cons rfl (fun K hK => ?_) ?_
            rotate_left
            · refine AllReadyH.cons rfl (fun K hK => ?_) AllReadyH.nil
              go_simp
              refine hK.out _ _ (hHeld.below ((Below.refl _ _).alloc (Nat.le_refl _) _)) (fun hHeld => ?_)
              clear hK K
              try simp only [Act.put, List.setIfInBounds_toArray, List.set_cons_zero, List.set_cons_succ, List.getElem_toArray, List.getElem_cons_zero, List.getElem_cons_succ]
              refine wpAnyH_ready (rs := [13]) (by kernel_rfl) (by simp) ?_
              refine AllReadyH.cons rfl (fun K hK => ?_) AllReadyH.nil
              go_simp
              go_at_call 7
              refine (HM2.out _ (B1'.alloc (by omega) _)).mono ?_
              rintro e w3 ⟨L2, e2, rfl, hK2, hb2⟩
              have hz2 := hb2.size
              try simp only [World.size_alloc, World.size_drew] at hz2
              have hS2 := hHeld.below hb2
              go_wp2_with fail
              refine hK.out _ _ hS2 (fun hHeld => ?_)
              clear hK K
              try simp only [Act.put, List.setIfInBounds_toArray, List.set_cons_zero, List.set_cons_succ, List.getElem_toArray, List.getElem_cons_zero, List.getElem_cons_succ]
              refine wpAnyH_take (i := 14) (v := ?_) rfl (by kernel_rfl) (by kernel_rfl) (by kernel_rfl) (fun _ _ _ h => h) (Or.inl ⟨by rfl, ?_⟩) hHeld ?_
              rotate_left
              · intro w hSw; (try dsimp only [Five] at hSw); go_simp; try (first | with_reducible rfl | rfl)
              try simp only [Act.put, List.setIfInBounds_toArray, List.set_cons_zero, List.set_cons_succ, List.getElem_toArray, List.getElem_cons_zero, List.getElem_cons_succ]
              have G2 : w3.heap[w2.heap.size]? = some (.cells #[.bool false, .int .i64 0, .slice none 0 0, .int .i64 0, .slice none 0 0] 32 (0, 0)) := (hb2.block _ (by simp)).trans (blk_alloc_new _ _)
              have B2' : Below wr.heap.size wr w3 := (B1'.alloc (by omega) _).trans (hb2.mono (by simp; omega))
              have HFin := Lib.hid (made_fin (v0 := .bool c[k].neg) (v1 := .int .i64 (c[k].l.ren (mv (byF by_))).hd) (v2 := .slice L1 (c[k].l.ren (mv (byF by_))).args.length e1) (v3 := .int .i64 (c[k].r.ren (mv (byF by_))).hd) (v4 := .slice L2 (c[k].r.ren (mv (byF by_))).args.length e2) (by omega) B2' G2 (Rd.stay (d := Tm.rd) (Tm.K.bound hK1) (fun q hd hq => (hb2.block q (by simp; omega)).trans (Below.heap_alloc _ _ _ hq)) (fun q hq => by have := hq.1; have := hq.2; simp at *; omega)) (Tm.K.mono (fun q hq => by simp at hq; omega) hK2) _ rfl)
              have cc := fun j => blk_cell G2 j
              have ff := fun j => blk_frozen G2 j
              have x0 := cc 0; have x1 := cc 1; have x2 := cc 2; have x3 := cc 3; have x4 := cc 4
              simp only [List.getElem?_toArray, List.getElem?_cons_zero, List.getElem?_cons_succ] at x0 x1 x2 x3 x4
              have y0 := ff 0; have y1 := ff 1; have y2 := ff 2; have y3 := ff 3; have y4 := ff 4
              clear cc ff G2 hK1 hK2 hb1 hb2 B1' B2' hS1 hS2
              refine wpAnyH_ready (rs := [16]) (by kernel_rfl) (by simp) ?_
              refine AllReadyH.cons rfl (fun K hK => ?_) AllReadyH.nil
              go_simp
              refine hK.out _ _ (hHeld.sets (by omega)) (fun hHeld => ?_)
              clear hK K
              refine wpAnyH_done (by kernel_rfl) ?_ _
              go_wp2_with fail
              go_meet
              exact ⟨_, _, _, _, _, rfl, HFin⟩
            go_simp
            go_at_call 7
            refine (HM2.out _ (B1')).mono ?_
            rintro e w3 ⟨L2, e2, rfl, hK2, hb2⟩
            have hz2 := hb2.size
            try simp only [World.size_alloc, World.size_drew] at hz2
            have hS2 := hHeld.below hb2
            go_wp2_with fail
            refine hK.out _ _ hS2 (fun hHeld => ?_)
            clear hK K
            try simp only [Act.put, List.setIfInBounds_toArray, List.set_cons_zero, List.set_cons_succ, List.getElem_toArray, List.getElem_cons_zero, List.getElem_cons_succ]
            refine wpAnyH_take (i := 14) (v := ?_) rfl (by kernel_rfl) (by kernel_rfl) (by kernel_rfl) (fun _ _ _ h => h) (Or.inl ⟨by rfl, ?_⟩) hHeld ?_
            rotate_left
            · intro w hSw; (try dsimp only [Five] at hSw); go_simp; try (first | with_reducible rfl | rfl)
            try simp only [Act.put, List.setIfInBounds_toArray, List.set_cons_zero, List.set_cons_succ, List.getElem_toArray, List.getElem_cons_zero, List.getElem_cons_succ]
            have B2' : Below wr.heap.size wr w3 := B1'.trans (hb2.mono (by omega))
            refine wpAnyH_ready (rs := [15]) (by kernel_rfl) (by simp) ?_
            refine AllReadyH.cons rfl (fun K hK => ?_) AllReadyH.nil
            go_simp
            refine hK.out _ _ (hHeld.below ((Below.refl _ _).alloc (Nat.le_refl _) _)) (fun hHeld => ?_)
            clear hK K
            try simp only [Act.put, List.setIfInBounds_toArray, List.set_cons_zero, List.set_cons_succ, List.getElem_toArray, List.getElem_cons_zero, List.getElem_cons_succ]
            refine wpAnyH_ready (rs := [16]) (by kernel_rfl) (by simp) ?_
            refine AllReadyH.cons rfl (fun K hK => ?_) AllReadyH.nil
            go_simp
            refine hK.out _ _ (hS2.below ((Below.refl _ _).alloc (Nat.le_refl _) _)) (fun hHeld => ?_)
            clear hK K
            have HFin := Lib.hid (made_new (v0 := .bool c[k].neg) (v1 := .int .i64 (c[k].l.ren (mv (byF by_))).hd) (v2 := .slice L1 (c[k].l.ren (mv (byF by_))).args.length e1) (v3 := .int .i64 (c[k].r.ren (mv (byF by_))).hd) (v4 := .slice L2 (c[k].r.ren (mv (byF by_))).args.length e2) (t := 32) (by omega) B2' (Rd.stay (d := Tm.rd) hK1 (fun q _ hq => hb2.block q hq) (fun q hq => by simp at hq; omega)) (Tm.K.mono (fun q hq => by omega) hK2))
            refine wpAnyH_done (by kernel_rfl) ?_ _
            go_wp2_with fail
            go_meet
            exact ⟨_, _, _, _, _, rfl, HFin⟩
          case rest =>
            obtain ⟨g, d3, d4, B3, B4, rfl, hcut⟩ := hcut
            obtain ⟨hbx, hg, G, KL, KR⟩ := hcut.out
            have hX' := hX.out
            obtain ⟨xs, hxl, hxs, hown⟩ := hX'
            obtain ⟨Ad, cd, rfl⟩ := hown.form
            rw [hxl] at hown ⊢
            have hcl : c.length ≤ 5 := by omega
            have hszc := hbx.size
            have cc := fun j => blk_cell G j
            have x0 := cc 0; have x1 := cc 1; have x2 := cc 2; have x3 := cc 3; have x4 := cc 4
            simp only [List.getElem?_toArray, List.getElem?_cons_zero, List.getElem?_cons_succ] at x0 x1 x2 x3 x4
            have y0 := blk_frozen G 0; have y1 := blk_frozen G 1; have y2 := blk_frozen G 2; have y3 := blk_frozen G 3; have y4 := blk_frozen G 4
            have HQ := Lib.hid (And.intro hxs hown)
            have HX := Lib.hid hxl
            have hgl := blk_lt G
            have HBx := Lib.hid hbx
            have htl : turns.length ≤ 9223372036854775807 := Nat.le_trans HT.out.le HT.out.mx
            have ht3 := HT.out.le
            have ht4 : c3 ≤ 9223372036854775807 := HT.out.mx
            have HPre := Lib.hid (fun o => loop1_pre (n := c[k].neg) (by_ := by_) (turns := turns) (c := c) hB.out hbx hown KL KR o)
            by_cases ht : k < turns.length
            · have hlss : decide ((k : Int) < (turns.length : Int)) = true := by simp; omega
              obtain ⟨bt, ot, rfl, hDt, ct⟩ := bool_get (HT.out.below (hB.out.trans (hbx.mono hB.out.size))) k ht
              have hgt1 : turns.getD k false = turns[k] := by simp [List.getD, ht]
              cases htk : turns[k] with
              | false =>
                rw [htk] at ct
                have hmade : Hid (madeLt by_ turns k c[k] = c[k].ren (mv (byF by_))) := by
                  show _ = _
                  unfold madeLt
                  rw [hgt1, htk]
                  rfl
                clear hX hcut hbx G KL KR hxs hown hxl cc hgt1 htk
                go_wp2_with (at_builtin; refine Rd.list_own Lt.rd (fun b => w.heap.size ≤ b) 23 32 (.agg #[.bool false, .int .i64 0, .slice none 0 0, .int .i64 0, .slice none 0 0]) w.heap.size rfl _ _ rfl Tryd.underlying23 infoLit rfl (by decide) _ xs k HX.out (c[k].ren (mv (byF by_))) _ _ rfl rfl (blk_alloc_new _ _) (HPre.out _).1 (HPre.out _).2 (by show (k + 1) * 72 ≤ _; omega) (by simp; omega) ?_; intro g3 cap3 w2 hown3 hgrow3 hat3 hlt3)
                go_roundw
                case rel =>
                  have hr := loop1_rel _ hlt hB.out HBx.out HX.out HQ.out.1 hmade.out HQ.out.2 hown3 hgrow3
                  exact ⟨k + 1, by omega, by go_num, Lib.hid hr.1, Lib.hid hr.2⟩
                case measure => simp [intOf]; omega
              | true =>
                rw [htk] at ct
                have hmade : Hid (madeLt by_ turns k c[k] = (c[k].ren (mv (byF by_))).turn) := by
                  show _ = _
                  unfold madeLt
                  rw [hgt1, htk]
                  rfl
                have HS0 := Lib.hid (And.intro G (And.intro KL KR))
                have hg' := hg
                clear hX hcut hbx G KL KR hxs cc hgt1 htk HPre
                have HOwn := Lib.hid hown
                clear hown hxl
                go_upto_region 10 with fail
                obtain ⟨W0, hW0⟩ : ∃ W0, W0 = (((((wc.setCell ⟨g, 0, none⟩ (.bool c[k].neg)).setCell ⟨g, 1, none⟩ (.int .i64 (c[k].r.ren (mv (byF by_))).hd)).setCell ⟨g, 2, none⟩ (.slice B4 (c[k].r.ren (mv (byF by_))).args.length d4)).setCell ⟨g, 3, none⟩ (.int .i64 (c[k].l.ren (mv (byF by_))).hd)).setCell ⟨g, 4, none⟩ (.slice B3 (c[k].l.ren (mv (byF by_))).args.length d3)) := ⟨_, rfl⟩
                rw [← hW0]
                have HMF := Lib.hid (made_fin hg HBx.out HS0.out.1 HS0.out.2.2 HS0.out.2.1 W0 hW0)
                have HPre2 := Lib.hid (fun o => loop1_pre (n := c[k].neg) (by_ := by_) (turns := turns) (c := c) hB.out HMF.out.1 HOwn.out HMF.out.2.2.2.1 HMF.out.2.2.2.2 o)
                clear hW0 x0 x1 x2 x3 x4 y0 y1 y2 y3 y4 ct
                have cc := fun j => blk_cell HMF.out.2.2.1 j
                have x0 := cc 0; have x1 := cc 1; have x2 := cc 2; have x3 := cc 3; have x4 := cc 4
                simp only [List.getElem?_toArray, List.getElem?_cons_zero, List.getElem?_cons_succ] at x0 x1 x2 x3 x4
                have hsz0 := HMF.out.1.size
                clear cc
                go_wp2_with (at_builtin; refine Rd.list_own Lt.rd (fun b => w.heap.size ≤ b) 23 32 (.agg #[.bool false, .int .i64 0, .slice none 0 0, .int .i64 0, .slice none 0 0]) w.heap.size rfl _ _ rfl Tryd.underlying23 infoLit rfl (by decide) _ xs k HX.out (c[k].ren (mv (byF by_))).turn _ _ rfl rfl (blk_alloc_new _ _) (HPre2.out _).1 (HPre2.out _).2 (by show (k + 1) * 72 ≤ _; omega) (by simp; omega) ?_; intro g3 cap3 w2 hown3 hgrow3 hat3 hlt3)
                go_roundw
                case rel =>
                  have hr := loop1_rel _ hlt hB.out HMF.out.1 HX.out HQ.out.1 hmade.out HQ.out.2 hown3 hgrow3
                  exact ⟨k + 1, by omega, by go_num, Lib.hid hr.1, Lib.hid hr.2⟩
                case measure => simp [intOf]; omega
            · have hlss : decide ((k : Int) < (turns.length : Int)) = false := by simp; omega
              have hmade : Hid (madeLt by_ turns k c[k] = c[k].ren (mv (byF by_))) := by
                show _ = _
                simp [madeLt, List.getD, ht]
              clear hX hcut hbx G KL KR hxs hown hxl cc
              go_wp2_with (at_builtin; refine Rd.list_own Lt.rd (fun b => w.heap.size ≤ b) 23 32 (.agg #[.bool false, .int .i64 0, .slice none 0 0, .int .i64 0, .slice none 0 0]) w.heap.size rfl _ _ rfl Tryd.underlying23 infoLit rfl (by decide) _ xs k HX.out (c[k].ren (mv (byF by_))) _ _ rfl rfl (blk_alloc_new _ _) (HPre.out _).1 (HPre.out _).2 (by show (k + 1) * 72 ≤ _; omega) (by simp; omega) ?_; intro g3 cap3 w2 hown3 hgrow3 hat3 hlt3)
              go_roundw
              case rel =>
                have hr := loop1_rel _ hlt hB.out HBx.out HX.out HQ.out.1 hmade.out HQ.out.2 hown3 hgrow3
                exact ⟨k + 1, by omega, by go_num, Lib.hid hr.1, Lib.hid hr.2⟩
              case measure => simp [intOf]; omega
        · obtain rfl : k = c.length := by omega
          have hX' := hX.out
          obtain ⟨xs, hxl, hxs, hown⟩ := hX'
          obtain ⟨Ad, cd, rfl⟩ := hown.form
          rw [hxl] at hown ⊢
          have hab : About (mv (byF by_)) c xs := about_start hxl.symm (fun k hk hj => by rw [hxs k hj hk]; unfold madeLt; split; exact .inr rfl; exact .inl rfl)
          have HA := Lib.hid (And.intro hxl (And.intro hown hab))
          clear hX hown hxs hxl hab
          go_upto_block 2 with fail
          go_cut [] (fun wx => Hid (Below w.heap.size w wx ∧ ∃ ds, ds.length = c.length ∧ Lt.rd.Own (fun b => w.heap.size ≤ b) 32 wx w.heap.size (.slice Ad c.length cd) ds ∧ About (mv (byF by_)) c ds))
          case first =>
            go_wp2_with fail
            obtain ⟨wo, rfl⟩ : ∃ wo : World, wo = wr := ⟨_, rfl⟩
            go_loopw [73] (fun i wr => ∃ k : Nat, k ≤ moves.length ∧ i = .int .i64 k ∧ Hid (Below w.heap.size w wr ∧ ∃ ds, ds.length = c.length ∧ Lt.rd.Own (fun b => w.heap.size ≤ b) 32 wr w.heap.size (.slice Ad c.length cd) ds ∧ About (mv (byF by_)) c ds))
              (fun i _ => moves.length - (intOf i).toNat)
            case atStart => exact ⟨0, Nat.zero_le _, rfl, Lib.hid ⟨hB.out, _, HA.out⟩⟩
            case round =>
              obtain ⟨k, hk, rfl, hR⟩ := hrel
              by_cases hlt : k < moves.length
              · have hlss : decide ((k : Int) < (moves.length : Int)) = true := by simp; omega
                have hml : moves.length ≤ 9223372036854775807 := Nat.le_trans HM.out.le HM.out.mx
                have hm2 := HM.out.le
                have hm3 : c2 ≤ 9223372036854775807 := HM.out.mx
                have hcl : c.length ≤ 5 := by omega
                obtain ⟨bm, om, rfl, hDm, cm⟩ := int_get (HM.out.below hR.out.1) k hlt
                by_cases h20 : 20 ≤ k
                · have hge : decide (20 ≤ (k : Int)) = true := by simp; omega
                  go_wp2_with fail
                  go_meet
                  exact hR
                · have hge : decide (20 ≤ (k : Int)) = false := by simp; omega
                  by_cases h2 : c.length < 2
                  · have hls2 : decide ((c.length : Int) < 2) = true := by simp; omega
                    go_wp2_with fail
                    go_meet
                    exact hR
                  · have hls2 : decide ((c.length : Int) < 2) = false := by simp; omega
                    obtain ⟨hBw, ds, hdl, hown, hab⟩ := hR.out
                    obtain ⟨a, ha1, hal⟩ : ∃ a : Nat, ((k : Int)).tmod (c.length : Int) = (a : Int) ∧ a < c.length := ⟨k % c.length, by rw [Int.ofNat_tmod], Nat.mod_lt _ (by omega)⟩
                    obtain ⟨r, b', hr1, hr2, hr3, hr4, hb5⟩ := mod_place moves[k] c.length (by omega)
                    have hwr : IntKind.i64.wrap (r + (c.length : Int)) = r + (c.length : Int) := IntWalk.i64_in _ (by omega)
                    have HOwn := Lib.hid (And.intro hBw (And.intro hdl (And.intro hown hab)))
                    clear hBw hdl hown hab
                    go_upto_region 16 with fail
                    go_quiet (fail)
                    go_upto_region 17 with fail
                    obtain ⟨W1, hW1⟩ : ∃ W1, W1 = wr.drewN nq := ⟨_, rfl⟩
                    rw [← hW1]
                    have hW1h : W1.heap = wr.heap := by rw [hW1]; simp
                    have hbW : Below wr.heap.size wr W1 := by rw [hW1]; exact below_drewN (Below.refl _ wr) nq
                    clear hW1 cm
                    obtain ⟨hBw, hdl, hown, hab⟩ := HOwn.out
                    have hown1 := hown.below hbW
                    have hads : a < ds.length := by omega
                    have hbds : b' < ds.length := by omega
                    obtain ⟨g, A4, c4, A5, c5, rfl, hgb, hgl, ⟨cur, hcur⟩, Ka1, Ka2, p0, p1, p2, p3, p4⟩ := own_get5 hown1 a hads
                    obtain ⟨g', A6, c6, A7, c7, hgg, -, -, -, Kb1, Kb2, q0, q1, q2, q3, q4⟩ := own_get5 hown1 b' hbds
                    obtain rfl : g = g' := by simpa using hgg
                    obtain ⟨-, hcd, hcd2⟩ := hown1.len
                    have hcd3 : cd ≤ 9223372036854775807 := hcd2
                    have ff := fun j => blk_frozen hcur j
                    have f0 := ff (a * 5); have f1 := ff (a * 5 + 1); have f2 := ff (a * 5 + 2); have f3 := ff (a * 5 + 3); have f4 := ff (a * 5 + 4)
                    have e0 := ff (b' * 5); have e1 := ff (b' * 5 + 1); have e2 := ff (b' * 5 + 2); have e3 := ff (b' * 5 + 3); have e4 := ff (b' * 5 + 4)
                    have HK5 := Lib.hid (And.intro hBw (And.intro hdl (And.intro hab (And.intro hown1 (And.intro Ka1 (And.intro Ka2 (And.intro Kb1 Kb2)))))))
                    have HbW := Lib.hid hbW
                    clear hBw hdl hown hab hown1 Ka1 Ka2 Kb1 Kb2 hbW ff hgg hcur hcd2 hW1h HOwn ha1 hr1 hr4 hwr hgb hb1 hlss hgt hls2 hge
                    go_upto_region 18 with fail
                    obtain ⟨W2, hW2⟩ : ∃ W2, W2 = W1.alloc (.cells #[.bool ds[a].neg, .int .i64 ds[a].l.hd, .slice A4 ds[a].l.args.length c4, .int .i64 ds[a].r.hd, .slice A5 ds[a].r.args.length c5] 32) := ⟨_, rfl⟩
                    rw [← hW2]
                    have G2 : W2.heap[W1.heap.size]? = some (.cells #[.bool ds[a].neg, .int .i64 ds[a].l.hd, .slice A4 ds[a].l.args.length c4, .int .i64 ds[a].r.hd, .slice A5 ds[a].r.args.length c5] 32 (0, 0)) := by rw [hW2]; exact blk_alloc_new _ _
                    have B2 : Below W1.heap.size W1 W2 := by rw [hW2]; exact (Below.refl _ _).alloc (Nat.le_refl _) _
                    clear hW2 p0 p1 p2 p3 p4 q0 q1 q2 q3 q4 f0 f1 f2 f3 f4 e0 e1 e2 e3 e4
                    have hown2 := HK5.out.2.2.2.1.below B2
                    obtain ⟨ga, A4', c4', A5', c5', hga, -, -, ⟨cur2, hcur2⟩, -, -, p0, p1, p2, p3, p4⟩ := own_get5 hown2 a hads
                    obtain rfl : g = ga := by simpa using hga
                    obtain ⟨gb, A8, c8, A9, c9, hga2, -, -, -, Kb1, Kb2, q0, q1, q2, q3, q4⟩ := own_get5 hown2 b' hbds
                    obtain rfl : g = gb := by simpa using hga2
                    have ff := fun j => blk_frozen hcur2 j
                    have f0 := ff (a * 5); have f1 := ff (a * 5 + 1); have f2 := ff (a * 5 + 2); have f3 := ff (a * 5 + 3); have f4 := ff (a * 5 + 4)
                    have HK6 := Lib.hid (And.intro hown2 (And.intro Kb1 (And.intro Kb2 (And.intro G2 B2))))
                    clear hown2 Kb1 Kb2 G2 B2 hga hga2 ff hcur2
                    go_upto_region 19 with fail
                    obtain ⟨W3, hW3⟩ : ∃ W3, W3 = (((((W2.setCell ⟨g, a * 5, none⟩ (.bool ds[b'].neg)).setCell ⟨g, a * 5 + 1, none⟩ (.int .i64 ds[b'].l.hd)).setCell ⟨g, a * 5 + 2, none⟩ (.slice A8 ds[b'].l.args.length c8)).setCell ⟨g, a * 5 + 3, none⟩ (.int .i64 ds[b'].r.hd)).setCell ⟨g, a * 5 + 4, none⟩ (.slice A9 ds[b'].r.args.length c9)) := ⟨_, rfl⟩
                    rw [← hW3]
                    clear p0 p1 p2 p3 p4 q0 q1 q2 q3 q4 f0 f1 f2 f3 f4
                    have hn3 : ∀ q, q ≠ g → W3.heap[q]? = W2.heap[q]? := fun q hq => by rw [hW3]; exact sets5_ne hq
                    have hz3 : W3.heap.size = W2.heap.size := by rw [hW3]; simp only [size_set]
                    have hown3 : Lt.rd.Own (fun b => w.heap.size ≤ b) 32 W3 w.heap.size (.slice (some ⟨g, 0, none⟩) c.length cd) (ds.set a ds[b']) := by
                      rw [hW3]; exact own5_put HK6.out.1 a hads (Lt.mk_ _ HK6.out.2.1 HK6.out.2.2.1)
                    have hbds3 : b' < (ds.set a ds[b']).length := by simp; exact hbds
                    obtain ⟨gc, A10, c10, A11, c11, hgc, -, -, ⟨cur3, hcur3⟩, -, -, q0, q1, q2, q3, q4⟩ := own_get5 hown3 b' hbds3
                    obtain rfl : g = gc := by simpa using hgc
                    have G3 := (hn3 W1.heap.size (by omega)).trans HK6.out.2.2.2.1
                    have cc := fun j => blk_cell G3 j
                    have x0 := cc 0; have x1 := cc 1; have x2 := cc 2; have x3 := cc 3; have x4 := cc 4
                    simp only [List.getElem?_toArray, List.getElem?_cons_zero, List.getElem?_cons_succ] at x0 x1 x2 x3 x4
                    have ff := fun j => blk_frozen hcur3 j
                    have e0 := ff (b' * 5); have e1 := ff (b' * 5 + 1); have e2 := ff (b' * 5 + 2); have e3 := ff (b' * 5 + 3); have e4 := ff (b' * 5 + 4)
                    have KA : Tm.K (fun k => w.heap.size ≤ k ∧ k ≠ g) W3 ds[a].l [.int .i64 ds[a].l.hd, .slice A4 ds[a].l.args.length c4] := Tm.K.keep (fun q hq => hn3 q hq.2) (Rd.below (d := Tm.rd) HK5.out.2.2.2.2.1 HK6.out.2.2.2.2)
                    have KB : Tm.K (fun k => w.heap.size ≤ k ∧ k ≠ g) W3 ds[a].r [.int .i64 ds[a].r.hd, .slice A5 ds[a].r.args.length c5] := Tm.K.keep (fun q hq => hn3 q hq.2) (Rd.below (d := Tm.rd) HK5.out.2.2.2.2.2.1 HK6.out.2.2.2.2)
                    have hown4 := own5_put hown3 b' hbds3 (x := ds[a]) (Lt.mk_ ds[a].neg KA KB)
                    have hfin : Below w.heap.size w (((((W3.setCell ⟨g, b' * 5, none⟩ (.bool ds[a].neg)).setCell ⟨g, b' * 5 + 1, none⟩ (.int .i64 ds[a].l.hd)).setCell ⟨g, b' * 5 + 2, none⟩ (.slice A4 ds[a].l.args.length c4)).setCell ⟨g, b' * 5 + 3, none⟩ (.int .i64 ds[a].r.hd)).setCell ⟨g, b' * 5 + 4, none⟩ (.slice A5 ds[a].r.args.length c5)) := by
                      have hgb := (hown3.base g rfl).1
                      have h1 := HK5.out.1.trans (HbW.out.mono HK5.out.1.size)
                      have h2 := h1.trans (HK6.out.2.2.2.2.mono h1.size)
                      have h3 : Below w.heap.size w W3 := by
                        rw [hW3]; exact below_set (below_set (below_set (below_set (below_set h2 hgb _) hgb _) hgb _) hgb _) hgb _
                      exact below_set (below_set (below_set (below_set (below_set h3 hgb _) hgb _) hgb _) hgb _) hgb _
                    have HF := Lib.hid (And.intro hfin (And.intro hown4 (about_swap HK5.out.2.2.1 a b' hads hbds)))
                    clear hW3 hn3 hz3 hown3 hgc hcur3 G3 cc ff KA KB hown4 hfin
                    go_wp2_with fail
                    go_roundw
                    case rel => exact ⟨k + 1, by omega, by go_num, Lib.hid ⟨HF.out.1, _, by simp [HK5.out.2.1], HF.out.2⟩⟩
                    case measure => simp [intOf]; omega
              · have hlss : decide ((k : Int) < (moves.length : Int)) = false := by simp; omega
                go_wp2_with fail
                go_meet
                exact hR
          case rest =>
            obtain ⟨hBw, ds, hdl, hown, hab⟩ := hcut.out
            have hcl : c.length ≤ 5 := by omega
            have hby := byF_bd by_
            have hn2 := both_hn hby.1 hby.2 Hs.out HN.out.1 hab
            have hal := both_alike hby.1 hby.2 hcl Hs.out hab
            obtain ⟨A', cap', e', hsl⟩ := hown.sl (by rw [hdl]; show _ * 72 ≤ _; omega)
            simp only [Value.slice.injEq] at e'
            obtain ⟨rfl, -, rfl⟩ := e'
            have HA1 : Hid (∀ W, Below wc.heap.size wc W → Calls Tryd.prog 8 #[.slice A1 c.length c1, .slice Ad c.length cd] W fun e w' => e = .returned (.bool true) ∧ Below W.heap.size W w') := Lib.hid fun W hb => by
              have := alike_any W (fun _ => True) c ds A1 Ad c1 cd hcl ((HC.out.below (hBw.trans (hb.mono hBw.size))).mono (fun _ _ => trivial)) ((hsl.below hb).mono (fun _ _ => trivial)) (fun x hx => by rcases List.mem_append.1 hx with h | h; exact hn2.1 x h; exact hn2.2 x h)
              rwa [hdl, hal.1] at this
            have HA2 : Hid (∀ W, Below wc.heap.size wc W → Calls Tryd.prog 8 #[.slice Ad c.length cd, .slice A1 c.length c1] W fun e w' => e = .returned (.bool true) ∧ Below W.heap.size W w') := Lib.hid fun W hb => by
              have := alike_any W (fun _ => True) ds c Ad A1 cd c1 (by omega) ((hsl.below hb).mono (fun _ _ => trivial)) ((HC.out.below (hBw.trans (hb.mono hBw.size))).mono (fun _ _ => trivial)) (fun x hx => by rcases List.mem_append.1 hx with h | h; exact hn2.2 x h; exact hn2.1 x h)
              rwa [hdl, hal.2] at this
            have HBw := Lib.hid hBw
            clear hcut hBw hdl hown hab hn2 hal hsl
            go_wp2_with fail
            refine (HA1.out _ (Below.refl _ _)).mono ?_
            rintro e w2 ⟨rfl, hb2⟩
            go_wp2_with fail
            refine (HA2.out _ hb2).mono ?_
            rintro e w3 ⟨rfl, hb3⟩
            go_wp2_with fail
            refine (HW.out _).mono ?_
            rintro e w4 ⟨rfl, hb4⟩
            go_wp2_with fail
            go_ret
            have h1 := HBw.out.trans (hb2.mono HBw.out.size)
            have h2 := h1.trans (hb3.mono h1.size)
            exact ⟨rfl, h2.trans (hb4.mono h2.size)⟩
end Go.Proofs.YtkgkdfhipgjobaaDoor
