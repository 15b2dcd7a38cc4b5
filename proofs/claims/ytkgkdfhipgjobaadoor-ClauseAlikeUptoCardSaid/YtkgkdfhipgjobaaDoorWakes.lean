/- syllogismlaw11.wakes answers true. -/
import Derived.Test.YtkgkdfhipgjobaaDoorCtext
import Derived.Test.YtkgkdfhipgjobaaDoorMain
namespace Go.Proofs.YtkgkdfhipgjobaaDoor
open Go.RowKit
set_option linter.unusedVariables false
set_option linter.unusedSimpArgs false

theorem flatten_get {α : Type} (sz : Nat) : ∀ (css : List (List α)), (∀ cs ∈ css, cs.length = sz) → ∀ i (cs : List α), css[i]? = some cs → ∀ j u, cs[j]? = some u → css.flatten[i * sz + j]? = some u
  | [], _, i, cs, h, _, _, _ => by simp at h
  | c :: r, hl, 0, cs, h, j, u, hj => by
    simp only [List.getElem?_cons_zero, Option.some.injEq] at h
    subst h
    rw [List.flatten_cons, Nat.zero_mul, Nat.zero_add, List.getElem?_append_left (List.getElem?_eq_some_iff.1 hj).1]
    exact hj
  | c :: r, hl, i + 1, cs, h, j, u, hj => by
    have hc := hl c (by simp)
    have := flatten_get sz r (fun c hc => hl c (by simp [hc])) i cs (by simpa using h) j u hj
    rw [List.flatten_cons, List.getElem?_append_right (by rw [hc, Nat.add_mul]; omega), hc, Nat.add_mul, Nat.one_mul]
    rw [show i * sz + sz + j - sz = i * sz + j by omega]
    exact this
/-- A slice over a block that is known whole. -/
theorem sl_blk {α : Type} {d : Rd α} {D : Nat → Prop} {w : World} {g cap : Nat} {cells : Array Value} {t : TypeId} {fr : Nat × Nat} (xs : List α) (css : List (List Value)) (hlen : xs.length = css.length)
    (hK : ∀ (i : Nat) (x : α) (cs : List Value), xs[i]? = some x → css[i]? = some cs → d.K D w x cs) (hb : w.heap[g]? = some (.cells cells t fr)) (hc : cells.toList = css.flatten) (hD : D g) (h1 : xs.length ≤ cap) (h2 : cap ≤ maxLen) (h3 : xs.length * d.bytes ≤ 140737488355328) :
    d.Sl D w (some ⟨g, 0, none⟩) cap xs := by
  have hsz : ∀ cs ∈ css, cs.length = d.sz := fun cs hcs => by
    obtain ⟨i, hi, rfl⟩ := List.getElem_of_mem hcs
    exact d.len (hK i xs[i] css[i] (by simp [hlen ▸ hi]) (by simp [hi]))
  refine ⟨h1, h2, h3, .inr ⟨g, 0, rfl, hD, fun i x hx => ?_⟩⟩
  have hi : i < css.length := by have := (List.getElem?_eq_some_iff.1 hx).1; omega
  refine ⟨css[i], hK i x _ hx (by simp [hi]), fun j u hj => ?_⟩
  rw [Nat.zero_add, blk_cell hb, ← Array.getElem?_toList, hc]
  exact flatten_get d.sz css hsz i css[i] (by simp [hi]) j u hj

def sigS : List Sy := [truthS, ⟨⟨#[97]⟩, 0, false⟩, ⟨⟨#[102]⟩, 2, false⟩, ⟨⟨#[112]⟩, 1, true⟩]
def tmX : Tm := .mk (-1) []
def tmA : Tm := .mk 1 []
def tmF : Tm := .mk 2 [tmX, tmA]
def tmP : Tm := .mk 3 [tmA]
def clW : List Lt := [⟨false, tmF, tmX⟩, ⟨true, tmP, .mk 0 []⟩]
def clX : List Lt := [⟨false, tmX, tmA⟩]
def clY : List Lt := [⟨false, tmA, .mk (-4) []⟩]
theorem dec0 : Lib.decDigits 0 = [48] := by rw [Lib.decDigits]; rfl
theorem wE : clauseE sigS clW = 0 := by kernel_rfl
theorem wE0 : clauseE sigS [] = 0 := by kernel_rfl
theorem wSize : sizeC clW = 6 := by kernel_rfl
theorem wAlike : alikeF clX clY = true := by kernel_rfl
theorem wText : clauseS sigS clW = ⟨#[102, 40, 88, 48, 44, 97, 41, 32, 61, 32, 88, 48, 32, 124, 32, 126, 32, 112, 40, 97, 41]⟩ := by kernel_rfl

set_option maxHeartbeats 1000000 in
theorem law_sig (w : World) : Calls Tryd.prog 14 #[] w fun e w' => ∃ g, e = .returned (.agg #[.slice (some ⟨g, 0, none⟩) 4 4]) ∧ Sy.rd.Sl (fun k => w.heap.size ≤ k) w' (some ⟨g, 0, none⟩) 4 sigS ∧ Below w.heap.size w w' := by
  have H : Hid (∀ o1 o2, Sy.rd.Sl (fun k => w.heap.size ≤ k) ((w.alloc o1).alloc (.cells #[.string ⟨#[36, 116, 114, 117, 101]⟩, .int .i64 0, .bool true, .string ⟨#[97]⟩, .int .i64 0, .bool false, .string ⟨#[102]⟩, .int .i64 2, .bool false, .string ⟨#[112]⟩, .int .i64 1, .bool true] o2)) (some ⟨w.heap.size + 1, 0, none⟩) 4 sigS) := Lib.hid (fun o1 o2 => by
    refine sl_blk sigS [[.string ⟨#[36, 116, 114, 117, 101]⟩, .int .i64 0, .bool true], [.string ⟨#[97]⟩, .int .i64 0, .bool false], [.string ⟨#[102]⟩, .int .i64 2, .bool false], [.string ⟨#[112]⟩, .int .i64 1, .bool true]] rfl ?_ (blk_at _ _ _ (by simp)) rfl (by omega) (Nat.le_refl _) (by decide) (by decide)
    intro i x cs hx hcs
    match i, hx, hcs with
    | 0, hx, hcs => simp [sigS] at hx hcs; subst hx hcs; exact Sy.mk_ _ _ truthS
    | 1, hx, hcs => simp [sigS] at hx hcs; subst hx hcs; exact Sy.mk_ _ _ ⟨⟨#[97]⟩, 0, false⟩
    | 2, hx, hcs => simp [sigS] at hx hcs; subst hx hcs; exact Sy.mk_ _ _ ⟨⟨#[102]⟩, 2, false⟩
    | 3, hx, hcs => simp [sigS] at hx hcs; subst hx hcs; exact Sy.mk_ _ _ ⟨⟨#[112]⟩, 1, true⟩
    | i + 4, hx, hcs => simp [sigS] at hx)
  go_enter Tryd.func14, Tryd.ntmps14
  go_wp2_with fail
  exact bodyPost_ret (v := .agg #[.slice (some ⟨w.heap.size + 1, 0, none⟩) 4 4]) (by simp [results, Tryd.results14, go_sem]) rfl ⟨_, rfl, H.out _ _, ((Below.refl _ w).alloc (Nat.le_refl _) _).alloc (by simp) _⟩

theorem sl_none {α : Type} (d : Rd α) (D : Nat → Prop) (w : World) : d.Sl D w none 0 [] := Rd.Sl.nil d D w none
theorem tm_leaf (D : Nat → Prop) (w : World) (f : Int) : Tm.K D w (.mk f []) [.int .i64 f, .slice none 0 0] := Tm.K.nil f none 0 (by decide)
set_option maxRecDepth 100000 in
set_option maxHeartbeats 2000000 in
theorem wakes_ok : WakesOk := by
  intro w
  have B5 : Hid (∀ o0 o1 o2 o3 o4, Below w.heap.size w (((((w.alloc o0).alloc o1).alloc o2).alloc o3).alloc o4)) := Lib.hid (fun o0 o1 o2 o3 o4 => (((((Below.refl _ w).alloc (Nat.le_refl _) o0).alloc (by simp) o1).alloc (by simp; omega) o2).alloc (by simp; omega) o3).alloc (by simp; omega) o4)
  go_enter Tryd.func6, Tryd.ntmps6
  go_wp2_with fail
  obtain ⟨W0, hW0⟩ : ∃ W0, W0 = (((((w.alloc (.cells #[.int .i64 (-1), .slice none 0 0, .int .i64 1, .slice none 0 0] 30)).alloc (.cells #[.int .i64 2, .slice (some ⟨w.heap.size, 0, none⟩) 2 2] 30)).alloc
      (.cells #[.int .i64 1, .slice none 0 0] 30)).alloc (.cells #[.int .i64 3, .slice (some ⟨w.heap.size + 1 + 1, 0, none⟩) 1 1] 30)).alloc
      (.cells #[.bool false, .int .i64 2, .slice (some ⟨w.heap.size, 0, none⟩) 2 2, .int .i64 (-1), .slice none 0 0, .bool true, .int .i64 3, .slice (some ⟨w.heap.size + 1 + 1, 0, none⟩) 1 1, .int .i64 0, .slice none 0 0] 32)) := ⟨_, rfl⟩
  rw [← hW0]
  have hC : Lt.rd.Sl (fun k => w.heap.size ≤ k) W0 (some ⟨w.heap.size + 1 + 1 + 1 + 1, 0, none⟩) 2 clW := by
    have G0 : W0.heap[w.heap.size]? = some (.cells #[.int .i64 (-1), .slice none 0 0, .int .i64 1, .slice none 0 0] 30 (0, 0)) := by rw [hW0]; exact blk_alloc (blk_alloc (blk_alloc (blk_alloc (blk_alloc_new w _) _) _) _) _
    have G2 : W0.heap[w.heap.size + 1 + 1]? = some (.cells #[.int .i64 1, .slice none 0 0] 30 (0, 0)) := by rw [hW0]; exact blk_alloc (blk_alloc (blk_at ((w.alloc _).alloc _) _ _ (by simp)) _) _
    have G4 : W0.heap[w.heap.size + 1 + 1 + 1 + 1]? = some (.cells #[.bool false, .int .i64 2, .slice (some ⟨w.heap.size, 0, none⟩) 2 2, .int .i64 (-1), .slice none 0 0, .bool true, .int .i64 3, .slice (some ⟨w.heap.size + 1 + 1, 0, none⟩) 1 1, .int .i64 0, .slice none 0 0] 32 (0, 0)) := by rw [hW0]; exact blk_at _ _ _ (by simp)
    have s0 : Tm.rd.Sl (fun k => w.heap.size ≤ k) W0 (some ⟨w.heap.size, 0, none⟩) 2 [tmX, tmA] := by
      refine sl_blk [tmX, tmA] [[.int .i64 (-1), .slice none 0 0], [.int .i64 1, .slice none 0 0]] rfl ?_ G0 rfl (Nat.le_refl _) (Nat.le_refl _) (by decide) (by decide)
      intro i x cs hx hcs
      match i, hx, hcs with
      | 0, hx, hcs => simp at hx hcs; subst hx hcs; exact tm_leaf _ _ _
      | 1, hx, hcs => simp at hx hcs; subst hx hcs; exact tm_leaf _ _ _
      | i + 2, hx, hcs => simp at hx
    have s2 : Tm.rd.Sl (fun k => w.heap.size ≤ k) W0 (some ⟨w.heap.size + 1 + 1, 0, none⟩) 1 [tmA] := by
      refine sl_blk [tmA] [[.int .i64 1, .slice none 0 0]] rfl ?_ G2 rfl (by omega) (Nat.le_refl _) (by decide) (by decide)
      intro i x cs hx hcs
      match i, hx, hcs with
      | 0, hx, hcs => simp at hx hcs; subst hx hcs; exact tm_leaf _ _ _
      | i + 1, hx, hcs => simp at hx
    refine sl_blk clW [[.bool false, .int .i64 2, .slice (some ⟨w.heap.size, 0, none⟩) 2 2, .int .i64 (-1), .slice none 0 0], [.bool true, .int .i64 3, .slice (some ⟨w.heap.size + 1 + 1, 0, none⟩) 1 1, .int .i64 0, .slice none 0 0]] rfl ?_ G4 rfl (by omega) (Nat.le_refl _) (by decide) (by decide)
    intro i x cs hx hcs
    match i, hx, hcs with
    | 0, hx, hcs => simp [clW] at hx hcs; subst hx hcs; exact Lt.mk_ (l := tmF) (r := tmX) false (Tm.K.mk_ 2 s0) (tm_leaf _ _ (-1))
    | 1, hx, hcs => simp [clW] at hx hcs; subst hx hcs; exact Lt.mk_ (l := tmP) (r := .mk 0 []) true (Tm.K.mk_ 3 s2) (tm_leaf _ _ 0)
    | i + 2, hx, hcs => simp [clW] at hx
  have hB0 : Below w.heap.size w W0 := by rw [hW0]; exact B5.out _ _ _ _ _
  have HC := Lib.hid (fun W hb => Rd.Sl.below (w' := W) hC hb)
  have HB0 := Lib.hid hB0
  clear hW0 hC hB0 B5
  refine (law_sig W0).mono ?_
  rintro e w1 ⟨g1, rfl, hs1, hb1⟩
  have HT1 : Hid (Calls Tryd.prog 13 #[.agg #[.slice (some ⟨g1, 0, none⟩) 4 4], .slice (some ⟨w.heap.size + 1 + 1 + 1 + 1, 0, none⟩) 2 2] w1 fun e w' => e = .returned (.tuple #[.string ⟨#[102, 40, 88, 48, 44, 97, 41, 32, 61, 32, 88, 48, 32, 124, 32, 126, 32, 112, 40, 97, 41]⟩, .int .i64 0]) ∧ Below w1.heap.size w1 w') := Lib.hid (by
    have h := clause_Text_some sigS clW (fun _ => True) w1 (some ⟨g1, 0, none⟩) (some ⟨w.heap.size + 1 + 1 + 1 + 1, 0, none⟩) 4 2 (hs1.mono (fun _ _ => trivial)) ((HC.out w1 hb1).mono (fun _ _ => trivial)) wE (by decide) (by decide)
    rw [wText] at h
    exact h)
  have HB1 := Lib.hid hb1
  clear hs1 hb1
  go_wp2_with fail
  refine Calls.mono HT1.out ?_
  rintro e w2 ⟨rfl, hb2⟩
  have HB2 := Lib.hid (HB1.out.trans (hb2.mono HB1.out.size))
  clear hb2
  go_wp2_with fail
  refine (law_sig w2).mono ?_
  rintro e w3 ⟨g3, rfl, hs3, hb3⟩
  have HT3 := Lib.hid (clause_Text_none sigS (fun k => w2.heap.size ≤ k) w3 (some ⟨g3, 0, none⟩) none 4 0 hs3 (by decide) wE0)
  have HB3 := Lib.hid (HB2.out.trans (hb3.mono HB2.out.size))
  clear hs3 hb3
  go_wp2_with fail
  refine Calls.mono HT3.out ?_
  rintro e w4 ⟨rfl, hb4⟩
  have HB4 := Lib.hid (HB3.out.trans (hb4.mono HB3.out.size))
  clear hb4
  have HSz : Hid (Calls Tryd.prog 15 #[.slice (some ⟨w.heap.size + 1 + 1 + 1 + 1, 0, none⟩) 2 2] w4 fun e w' => e = .returned (.int .i64 6) ∧ Below w4.heap.size w4 w') := Lib.hid (by
    have h := clause_Size clW (fun k => w.heap.size ≤ k) w4 (some ⟨w.heap.size + 1 + 1 + 1 + 1, 0, none⟩) 2 (by decide) (by decide) (HC.out w4 HB4.out)
    rw [wSize] at h
    exact h)
  go_wp2_with fail
  refine Calls.mono HSz.out ?_
  rintro e w5 ⟨rfl, hb5⟩
  have HB5 := Lib.hid (HB4.out.trans (hb5.mono HB4.out.size))
  clear hb5
  have HAl : Hid (Calls Tryd.prog 8 #[.slice (some ⟨w5.heap.size, 0, none⟩) 1 1, .slice (some ⟨w5.heap.size + 1, 0, none⟩) 1 1]
      ((w5.alloc (.cells #[.bool false, .int .i64 (-1), .slice none 0 0, .int .i64 1, .slice none 0 0] 32)).alloc (.cells #[.bool false, .int .i64 1, .slice none 0 0, .int .i64 (-4), .slice none 0 0] 32))
      fun e w' => e = .returned (.bool true) ∧ Below ((w5.alloc (.cells #[.bool false, .int .i64 (-1), .slice none 0 0, .int .i64 1, .slice none 0 0] 32)).alloc (.cells #[.bool false, .int .i64 1, .slice none 0 0, .int .i64 (-4), .slice none 0 0] 32)).heap.size
        ((w5.alloc (.cells #[.bool false, .int .i64 (-1), .slice none 0 0, .int .i64 1, .slice none 0 0] 32)).alloc (.cells #[.bool false, .int .i64 1, .slice none 0 0, .int .i64 (-4), .slice none 0 0] 32)) w') := Lib.hid (by
    have hX : Lt.rd.Sl (fun _ => True) ((w5.alloc (.cells #[.bool false, .int .i64 (-1), .slice none 0 0, .int .i64 1, .slice none 0 0] 32)).alloc (.cells #[.bool false, .int .i64 1, .slice none 0 0, .int .i64 (-4), .slice none 0 0] 32)) (some ⟨w5.heap.size, 0, none⟩) 1 clX := by
      refine sl_blk clX [[.bool false, .int .i64 (-1), .slice none 0 0, .int .i64 1, .slice none 0 0]] rfl ?_ (blk_alloc (blk_alloc_new w5 _) _) rfl trivial (Nat.le_refl _) (by decide) (by decide)
      intro i x cs hx hcs
      match i, hx, hcs with
      | 0, hx, hcs => simp [clX] at hx hcs; subst hx hcs; exact Lt.mk_ (l := tmX) (r := tmA) false (tm_leaf _ _ (-1)) (tm_leaf _ _ 1)
      | i + 1, hx, hcs => simp [clX] at hx
    have hY : Lt.rd.Sl (fun _ => True) ((w5.alloc (.cells #[.bool false, .int .i64 (-1), .slice none 0 0, .int .i64 1, .slice none 0 0] 32)).alloc (.cells #[.bool false, .int .i64 1, .slice none 0 0, .int .i64 (-4), .slice none 0 0] 32)) (some ⟨w5.heap.size + 1, 0, none⟩) 1 clY := by
      refine sl_blk clY [[.bool false, .int .i64 1, .slice none 0 0, .int .i64 (-4), .slice none 0 0]] rfl ?_ (blk_at _ _ _ (by simp)) rfl trivial (Nat.le_refl _) (by decide) (by decide)
      intro i x cs hx hcs
      match i, hx, hcs with
      | 0, hx, hcs => simp [clY] at hx hcs; subst hx hcs; exact Lt.mk_ (l := tmA) (r := .mk (-4) []) false (tm_leaf _ _ 1) (tm_leaf _ _ (-4))
      | i + 1, hx, hcs => simp [clY] at hx
    have h := alike_any _ (fun _ => True) clX clY (some ⟨w5.heap.size, 0, none⟩) (some ⟨w5.heap.size + 1, 0, none⟩) 1 1 (by decide) hX hY (by
      intro x hx
      simp only [clX, clY, List.cons_append, List.nil_append, List.mem_cons, List.not_mem_nil, or_false] at hx
      rcases hx with rfl | rfl <;> simp [tmX, tmA, Tm.AllH, Tm.AllL, fits, Tm.nodes, Tm.nodesL])
    rw [wAlike] at h
    exact h)
  go_wp2_with fail
  refine Calls.mono HAl.out ?_
  rintro e w6 ⟨rfl, hb6⟩
  have HB6 := Lib.hid (HB0.out.trans ((HB5.out.trans ((((Below.refl _ w5).alloc (Nat.le_refl _) _).alloc (by simp) _).trans (hb6.mono (by simp; omega)) |>.mono HB5.out.size)).mono HB0.out.size))
  clear hb6
  go_wp2_with fail
  go_ret
  exact ⟨rfl, HB6.out⟩
end Go.Proofs.YtkgkdfhipgjobaaDoor
