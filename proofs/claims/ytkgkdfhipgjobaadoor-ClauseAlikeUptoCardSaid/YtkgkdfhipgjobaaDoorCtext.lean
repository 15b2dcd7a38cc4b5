/- clause.Text: what it answers. -/
import Derived.Test.YtkgkdfhipgjobaaDoorText
namespace Go.Proofs.YtkgkdfhipgjobaaDoor
open Go.RowKit
set_option linter.unusedVariables false
set_option linter.unusedSimpArgs false

def textS (l : List Sy) (t : Tm) : ByteArray := ⟨(textR l t).toArray⟩
/-- A literal as a text. -/
def litS (l : List Sy) (x : Lt) : ByteArray :=
  if x.r.trueB then (if x.neg then ⟨#[126, 32]⟩ ++ textS l x.l else textS l x.l)
  else if x.neg then textS l x.l ++ (⟨#[32, 33, 61, 32]⟩ ++ textS l x.r) else textS l x.l ++ (⟨#[32, 61, 32]⟩ ++ textS l x.r)
/-- A clause as a text. -/
def clauseS (l : List Sy) (c : List Lt) : ByteArray := ⟨(Lib.join ((c.map (litS l)).map (·.data.toList)) [32, 124, 32]).toArray⟩
theorem textS_le (l : List Sy) (t : Tm) : (textS l t).size ≤ 15000 := by
  show (textR l t).toArray.size ≤ _
  rw [List.size_toArray]
  unfold textR
  split
  · rename_i h
    have := termE_ok h
    have h2 := text_le l (signE_names this.1) t this.2.2
    omega
  · simp
theorem litS_le (l : List Sy) (x : Lt) : (litS l x).size ≤ 30090 := by
  have h1 := textS_le l x.l
  have h2 := textS_le l x.r
  have e1 : (⟨#[126, 32]⟩ : ByteArray).size = 2 := rfl
  have e2 : (⟨#[32, 33, 61, 32]⟩ : ByteArray).size = 4 := rfl
  have e3 : (⟨#[32, 61, 32]⟩ : ByteArray).size = 3 := rfl
  unfold litS
  split <;> split <;> (try simp only [ByteArray.size_append]) <;> omega
theorem join_cons2 (x y : List UInt8) (r : List (List UInt8)) (sep : List UInt8) : Lib.join (x :: y :: r) sep = x ++ (sep ++ Lib.join (y :: r) sep) := by
  rw [Lib.join_cons, Lib.join_cons]
  simp [Lib.joinTail]
theorem join_le : ∀ (l : List (List UInt8)) (sep : List UInt8) (m : Nat), (∀ x ∈ l, x.length + sep.length ≤ m) → (Lib.join l sep).length ≤ l.length * m
  | [], sep, m, h => by simp [Lib.join]
  | [x], sep, m, h => by have := h x (by simp); rw [Lib.join_one]; simp only [List.length_singleton, Nat.one_mul]; omega
  | x :: y :: r, sep, m, h => by
    have h1 := h x (by simp)
    have h2 := join_le (y :: r) sep m (fun z hz => h z (by simp [hz]))
    rw [join_cons2]
    simp only [List.length_append, List.length_cons, Nat.add_mul, Nat.one_mul] at *
    omega
theorem strK (D : Nat → Prop) (w : World) (s : ByteArray) : Rd.string.K D w s [.string s] := rfl
theorem infoString : (Tryd.prog.info? 9).map (fun i => (i.zero, i.size, i.bytes)) = some (some (.string ⟨#[]⟩), 1, 16) := by kernel_rfl

set_option maxRecDepth 100000 in
set_option maxHeartbeats 4000000 in
theorem clause_Text_some (l : List Sy) (c : List Lt) (D : Nat → Prop) (w : World) (As Ac : Option Addr) (cs cc : Nat) (hS : Sy.rd.Sl D w As cs l) (hC : Lt.rd.Sl D w Ac cc c) (he : clauseE l c = 0) (hne : c.length ≠ 0) (hc16 : c.length ≤ 16) :
    Calls Tryd.prog 13 #[.agg #[.slice As l.length cs], .slice Ac c.length cc] w fun e w' => e = .returned (.tuple #[.string (clauseS l c), .int .i64 0]) ∧ Below w.heap.size w w' := by
  have HC := Lib.hid (fun W hb => clause_Check l c D W As Ac cs cc (Rd.Sl.below (w' := W) hS hb) (Rd.Sl.below (w' := W) hC hb))
  have HS := Lib.hid (fun W hb => Rd.Sl.below (w' := W) hS hb)
  have HCl := Lib.hid (fun W hb => Rd.Sl.below (w' := W) hC hb)
  have B1 := Lib.hid ((Below.refl w.heap.size w).alloc (Nat.le_refl _) (.cells #[.slice As l.length cs] 47))
  rw [he] at HC
  have d0 : ((c.length : Int) == 0) = false := by rw [beq_eq_false_iff_ne]; omega
  have hcl2 := hC.le
  have hcl3 : cc ≤ 9223372036854775807 := hC.mx
  clear hS hC he
  go_enter Tryd.func13, Tryd.ntmps13
  go_wp2_with fail
  refine (HC.out _ B1.out).mono ?_
  rintro e w1 ⟨rfl, hb1⟩
  have b0 : w1.cell? ⟨w.heap.size, 0, none⟩ = some (.slice As l.length cs) := (hb1.cell (by simp)).trans (by simp [go_sem])
  have HB1 := Lib.hid (B1.out.trans (hb1.mono (by simp)))
  clear hb1
  go_wp2_with fail
  go_loopw [6, 22] (fun s6 i wr => ∃ k : Nat, k ≤ c.length ∧ i = .int .i64 k ∧ Hid (Below w.heap.size w wr ∧ wr.cell? ⟨w.heap.size, 0, none⟩ = some (.slice As l.length cs) ∧ w.heap.size < wr.heap.size ∧ Rd.string.Own (fun _ => False) 9 wr (w.heap.size + 1) s6 ((c.take k).map (litS l)))) (fun _ i _ => c.length - (intOf i).toNat)
  case atStart => exact ⟨0, Nat.zero_le _, rfl, Lib.hid ⟨HB1.out, b0, World.block_lt_of_cell? _ _ b0, Rd.Own.nil _ _ _ _ _⟩⟩
  case round =>
    obtain ⟨k, hk, rfl, hR⟩ := hrel
    obtain ⟨Ad, cd, hform⟩ := hR.out.2.2.2.form
    rw [show ((c.take k).map (litS l)).length = k by simp; omega] at hform
    subst hform
    by_cases hlt : k < c.length
    · have hlss : decide ((k : Int) < (c.length : Int)) = true := decide_eq_true (by omega)
      obtain ⟨b_, o_, A1, c1, A2, c2, rfl, hDb, hK1, hK2, x0, x1, x2, x3, x4⟩ := Lt.get_ (HCl.out _ hR.out.1) k hlt
      have hwz := hR.out.2.2.1
      have b1 := fun o => cell_new hR.out.2.1 o
      have HBx := Lib.hid (hR.out.1.alloc (by omega) (.cells #[.bool c[k].neg, .int .i64 c[k].l.hd, .slice A1 c[k].l.args.length c1, .int .i64 c[k].r.hd, .slice A2 c[k].r.args.length c2] 32))
      have H6 := Lib.hid (show Box6 (wr.alloc (.cells #[.bool c[k].neg, .int .i64 c[k].l.hd, .slice A1 c[k].l.args.length c1, .int .i64 c[k].r.hd, .slice A2 c[k].r.args.length c2] 32)) wr.heap.size w.heap.size (.bool c[k].neg) (.int .i64 c[k].l.hd) (.slice A1 c[k].l.args.length c1) (.int .i64 c[k].r.hd) (.slice A2 c[k].r.args.length c2) (.slice As l.length cs) from by
        have G := blk_alloc_new wr (.cells #[.bool c[k].neg, .int .i64 c[k].l.hd, .slice A1 c[k].l.args.length c1, .int .i64 c[k].r.hd, .slice A2 c[k].r.args.length c2] 32)
        exact ⟨by rw [blk_cell G]; rfl, by rw [blk_cell G]; rfl, by rw [blk_cell G]; rfl, by rw [blk_cell G]; rfl, by rw [blk_cell G]; rfl, b1 _⟩)
      have HTl := Lib.hid (fun W (hb : Below w.heap.size w W) (hb2 : Below wr.heap.size wr W) => term_Text l c[k].l D W As A1 cs c1 (HS.out _ hb) (Rd.below (d := Tm.rd) (w' := W) hK1 hb2))
      have HTr := Lib.hid (fun W (hb : Below w.heap.size w W) (hb2 : Below wr.heap.size wr W) => term_Text l c[k].r D W As A2 cs c2 (HS.out _ hb) (Rd.below (d := Tm.rd) (w' := W) hK2 hb2))
      have BW0 := Lib.hid ((Below.refl wr.heap.size wr).alloc (Nat.le_refl _) (.cells #[.bool c[k].neg, .int .i64 c[k].l.hd, .slice A1 c[k].l.args.length c1, .int .i64 c[k].r.hd, .slice A2 c[k].r.args.length c2] 32))
      have HUr := Lib.hid (fun W => clause_True c[k].r W A2 c2)
      have hsl : (textS l c[k].l).size ≤ 15000 := textS_le l _
      have hsr : (textS l c[k].r).size ≤ 15000 := textS_le l _
      have hlit : Hid (litS l c[k] = if c[k].r.trueB then (if c[k].neg then ⟨#[126, 32]⟩ ++ textS l c[k].l else textS l c[k].l) else if c[k].neg then textS l c[k].l ++ (⟨#[32, 33, 61, 32]⟩ ++ textS l c[k].r) else textS l c[k].l ++ (⟨#[32, 61, 32]⟩ ++ textS l c[k].r)) := Lib.hid rfl
      simp only [show (⟨(textR l c[k].l).toArray⟩ : ByteArray) = textS l c[k].l from rfl, show (⟨(textR l c[k].r).toArray⟩ : ByteArray) = textS l c[k].r from rfl] at HTl HTr
      generalize textS l c[k].l = sl at *
      generalize textS l c[k].r = sr at *
      clear hK1 hK2
      go_wp2_with fail
      refine (HTl.out _ HBx.out BW0.out).mono ?_
      rintro e w2 ⟨rfl, hb2⟩
      have H62 := Lib.hid (H6.out.below hb2)
      have HB2 := Lib.hid (And.intro (HBx.out.trans (hb2.mono (by simp; omega))) (BW0.out.trans (hb2.mono (by simp))))
      clear hb2
      obtain ⟨y0, y1, y2, y3, y4, ys⟩ := H62.out
      go_wp2_with fail
      refine (HTr.out _ HB2.out.1 HB2.out.2).mono ?_
      rintro e w3 ⟨rfl, hb3⟩
      have H63 := Lib.hid (H62.out.below hb3)
      have HB3 := Lib.hid (And.intro (HB2.out.1.trans (hb3.mono HB2.out.1.size)) (HB2.out.2.trans (hb3.mono HB2.out.2.size)))
      clear hb3 y0 y1 y2 y3 y4 ys
      obtain ⟨y0, y1, y2, y3, y4, ys⟩ := H63.out
      cases hr : c[k].r.trueB with
      | true =>
        rw [hr] at HUr hlit
        clear hr
        cases hng : c[k].neg with
        | true =>
          rw [hng] at hlit y0
          have Hng := Lib.hid hng
          clear hng
          go_wp2_with fail
          refine (HUr.out _).mono ?_
          rintro e w4 ⟨rfl, hb4⟩
          have H64 := Lib.hid (H63.out.below hb4)
          have HB4 := Lib.hid (And.intro (HB3.out.1.trans (hb4.mono HB3.out.1.size)) (HB3.out.2.trans (hb4.mono HB3.out.2.size)))
          clear hb4 y0 y1 y2 y3 y4 ys
          obtain ⟨y0, y1, y2, y3, y4, ys⟩ := H64.out
          rw [Hng.out] at y0
          have HOw := Lib.hid (fun o => hR.out.2.2.2.below (HB4.out.2.alloc HB4.out.2.size o))
          have hwsz := HB4.out.2.size
          go_wp2_with (at_builtin; refine Rd.list_own Rd.string (fun _ => False) 71 9 (.string ⟨#[]⟩) (w.heap.size + 1) rfl _ _ rfl Tryd.underlying71 infoString rfl (by decide) _ ((c.take k).map (litS l)) k (by simp; omega) (⟨#[126, 32]⟩ ++ sl) _ _ rfl rfl (blk_alloc_new _ _) (HOw.out _) (strK _ _ _) (by show (k + 1) * 16 ≤ _; omega) (by simp; omega) ?_; intro g3 cap3 w9 hown3 hgrow3 hat3 hlt3)
          go_roundw
          case rel =>
            have hB9 := (HB4.out.1.alloc (by omega) (.cells #[.string (⟨#[126, 32]⟩ ++ sl)] 9)).grown hgrow3 (by simp; omega) (fun q e => by have := (hR.out.2.2.2.base _ e).1; omega)
            have hz9 := hgrow3.size
            simp only [World.size_alloc] at hz9
            refine ⟨k + 1, hlt, by go_num, Lib.hid ⟨hB9, ?_, by omega, ?_⟩⟩
            · exact (hgrow3.cell_far ⟨w.heap.size, 0, none⟩ (by simp; omega) (fun e => by have := (hR.out.2.2.2.base _ e.symm).1; simp at this; omega)).trans (cell_new ys _)
            · rw [List.take_succ_eq_append_getElem hlt, List.map_append]
              have : litS l c[k] = ⟨#[126, 32]⟩ ++ sl := by rw [hlit.out]; rfl
              simp only [List.map_cons, List.map_nil, this]
              exact hown3
          case measure => simp [intOf]; omega
        | false =>
          rw [hng] at hlit y0
          have Hng := Lib.hid hng
          clear hng
          go_wp2_with fail
          refine (HUr.out _).mono ?_
          rintro e w4 ⟨rfl, hb4⟩
          have H64 := Lib.hid (H63.out.below hb4)
          have HB4 := Lib.hid (And.intro (HB3.out.1.trans (hb4.mono HB3.out.1.size)) (HB3.out.2.trans (hb4.mono HB3.out.2.size)))
          clear hb4 y0 y1 y2 y3 y4 ys
          obtain ⟨y0, y1, y2, y3, y4, ys⟩ := H64.out
          rw [Hng.out] at y0
          go_wp2_with fail
          refine (HUr.out _).mono ?_
          rintro e w5 ⟨rfl, hb5⟩
          have H65 := Lib.hid (H64.out.below hb5)
          have HB5 := Lib.hid (And.intro (HB4.out.1.trans (hb5.mono HB4.out.1.size)) (HB4.out.2.trans (hb5.mono HB4.out.2.size)))
          clear hb5 y0 y1 y2 y3 y4 ys
          obtain ⟨y0, y1, y2, y3, y4, ys⟩ := H65.out
          rw [Hng.out] at y0
          have HOw := Lib.hid (fun o => hR.out.2.2.2.below (HB5.out.2.alloc HB5.out.2.size o))
          have hwsz := HB5.out.2.size
          go_wp2_with (at_builtin; refine Rd.list_own Rd.string (fun _ => False) 71 9 (.string ⟨#[]⟩) (w.heap.size + 1) rfl _ _ rfl Tryd.underlying71 infoString rfl (by decide) _ ((c.take k).map (litS l)) k (by simp; omega) (sl) _ _ rfl rfl (blk_alloc_new _ _) (HOw.out _) (strK _ _ _) (by show (k + 1) * 16 ≤ _; omega) (by simp; omega) ?_; intro g3 cap3 w9 hown3 hgrow3 hat3 hlt3)
          go_roundw
          case rel =>
            have hB9 := (HB5.out.1.alloc (by omega) (.cells #[.string (sl)] 9)).grown hgrow3 (by simp; omega) (fun q e => by have := (hR.out.2.2.2.base _ e).1; omega)
            have hz9 := hgrow3.size
            simp only [World.size_alloc] at hz9
            refine ⟨k + 1, hlt, by go_num, Lib.hid ⟨hB9, ?_, by omega, ?_⟩⟩
            · exact (hgrow3.cell_far ⟨w.heap.size, 0, none⟩ (by simp; omega) (fun e => by have := (hR.out.2.2.2.base _ e.symm).1; simp at this; omega)).trans (cell_new ys _)
            · rw [List.take_succ_eq_append_getElem hlt, List.map_append]
              have : litS l c[k] = sl := by rw [hlit.out]; rfl
              simp only [List.map_cons, List.map_nil, this]
              exact hown3
          case measure => simp [intOf]; omega
      | false =>
        rw [hr] at HUr hlit
        clear hr
        cases hng : c[k].neg with
        | true =>
          rw [hng] at hlit y0
          have Hng := Lib.hid hng
          clear hng
          go_wp2_with fail
          refine (HUr.out _).mono ?_
          rintro e w4 ⟨rfl, hb4⟩
          have H64 := Lib.hid (H63.out.below hb4)
          have HB4 := Lib.hid (And.intro (HB3.out.1.trans (hb4.mono HB3.out.1.size)) (HB3.out.2.trans (hb4.mono HB3.out.2.size)))
          clear hb4 y0 y1 y2 y3 y4 ys
          obtain ⟨y0, y1, y2, y3, y4, ys⟩ := H64.out
          rw [Hng.out] at y0
          go_wp2_with fail
          refine (HUr.out _).mono ?_
          rintro e w5 ⟨rfl, hb5⟩
          have H65 := Lib.hid (H64.out.below hb5)
          have HB5 := Lib.hid (And.intro (HB4.out.1.trans (hb5.mono HB4.out.1.size)) (HB4.out.2.trans (hb5.mono HB4.out.2.size)))
          clear hb5 y0 y1 y2 y3 y4 ys
          obtain ⟨y0, y1, y2, y3, y4, ys⟩ := H65.out
          rw [Hng.out] at y0
          have HOw := Lib.hid (fun o => hR.out.2.2.2.below (HB5.out.2.alloc HB5.out.2.size o))
          have hwsz := HB5.out.2.size
          go_wp2_with (at_builtin; refine Rd.list_own Rd.string (fun _ => False) 71 9 (.string ⟨#[]⟩) (w.heap.size + 1) rfl _ _ rfl Tryd.underlying71 infoString rfl (by decide) _ ((c.take k).map (litS l)) k (by simp; omega) (sl ++ (⟨#[32, 33, 61, 32]⟩ ++ sr)) _ _ rfl rfl (blk_alloc_new _ _) (HOw.out _) (strK _ _ _) (by show (k + 1) * 16 ≤ _; omega) (by simp; omega) ?_; intro g3 cap3 w9 hown3 hgrow3 hat3 hlt3)
          go_roundw
          case rel =>
            have hB9 := (HB5.out.1.alloc (by omega) (.cells #[.string (sl ++ (⟨#[32, 33, 61, 32]⟩ ++ sr))] 9)).grown hgrow3 (by simp; omega) (fun q e => by have := (hR.out.2.2.2.base _ e).1; omega)
            have hz9 := hgrow3.size
            simp only [World.size_alloc] at hz9
            refine ⟨k + 1, hlt, by go_num, Lib.hid ⟨hB9, ?_, by omega, ?_⟩⟩
            · exact (hgrow3.cell_far ⟨w.heap.size, 0, none⟩ (by simp; omega) (fun e => by have := (hR.out.2.2.2.base _ e.symm).1; simp at this; omega)).trans (cell_new ys _)
            · rw [List.take_succ_eq_append_getElem hlt, List.map_append]
              have : litS l c[k] = sl ++ (⟨#[32, 33, 61, 32]⟩ ++ sr) := by rw [hlit.out]; rfl
              simp only [List.map_cons, List.map_nil, this]
              exact hown3
          case measure => simp [intOf]; omega
        | false =>
          rw [hng] at hlit y0
          have Hng := Lib.hid hng
          clear hng
          go_wp2_with fail
          refine (HUr.out _).mono ?_
          rintro e w4 ⟨rfl, hb4⟩
          have H64 := Lib.hid (H63.out.below hb4)
          have HB4 := Lib.hid (And.intro (HB3.out.1.trans (hb4.mono HB3.out.1.size)) (HB3.out.2.trans (hb4.mono HB3.out.2.size)))
          clear hb4 y0 y1 y2 y3 y4 ys
          obtain ⟨y0, y1, y2, y3, y4, ys⟩ := H64.out
          rw [Hng.out] at y0
          go_wp2_with fail
          refine (HUr.out _).mono ?_
          rintro e w5 ⟨rfl, hb5⟩
          have H65 := Lib.hid (H64.out.below hb5)
          have HB5 := Lib.hid (And.intro (HB4.out.1.trans (hb5.mono HB4.out.1.size)) (HB4.out.2.trans (hb5.mono HB4.out.2.size)))
          clear hb5 y0 y1 y2 y3 y4 ys
          obtain ⟨y0, y1, y2, y3, y4, ys⟩ := H65.out
          rw [Hng.out] at y0
          have HOw := Lib.hid (fun o => hR.out.2.2.2.below (HB5.out.2.alloc HB5.out.2.size o))
          have hwsz := HB5.out.2.size
          go_wp2_with (at_builtin; refine Rd.list_own Rd.string (fun _ => False) 71 9 (.string ⟨#[]⟩) (w.heap.size + 1) rfl _ _ rfl Tryd.underlying71 infoString rfl (by decide) _ ((c.take k).map (litS l)) k (by simp; omega) (sl ++ (⟨#[32, 61, 32]⟩ ++ sr)) _ _ rfl rfl (blk_alloc_new _ _) (HOw.out _) (strK _ _ _) (by show (k + 1) * 16 ≤ _; omega) (by simp; omega) ?_; intro g3 cap3 w9 hown3 hgrow3 hat3 hlt3)
          go_roundw
          case rel =>
            have hB9 := (HB5.out.1.alloc (by omega) (.cells #[.string (sl ++ (⟨#[32, 61, 32]⟩ ++ sr))] 9)).grown hgrow3 (by simp; omega) (fun q e => by have := (hR.out.2.2.2.base _ e).1; omega)
            have hz9 := hgrow3.size
            simp only [World.size_alloc] at hz9
            refine ⟨k + 1, hlt, by go_num, Lib.hid ⟨hB9, ?_, by omega, ?_⟩⟩
            · exact (hgrow3.cell_far ⟨w.heap.size, 0, none⟩ (by simp; omega) (fun e => by have := (hR.out.2.2.2.base _ e.symm).1; simp at this; omega)).trans (cell_new ys _)
            · rw [List.take_succ_eq_append_getElem hlt, List.map_append]
              have : litS l c[k] = sl ++ (⟨#[32, 61, 32]⟩ ++ sr) := by rw [hlit.out]; rfl
              simp only [List.map_cons, List.map_nil, this]
              exact hown3
          case measure => simp [intOf]; omega
    · obtain rfl : k = c.length := by omega
      have hlss : decide ((c.length : Int) < (c.length : Int)) = false := by simp
      have hown := hR.out.2.2.2
      rw [List.take_length] at hown
      obtain ⟨g, cs0, rfl, -, hgl, -⟩ := hown.get 0 (by simp; omega)
      have hcells : ∀ (j : Nat) (x : ByteArray), (c.map (litS l))[j]? = some x → wr.cell? ⟨g, 0 + j, none⟩ = some (.string x) := fun j x hx => by
        obtain ⟨hj, rfl⟩ := List.getElem?_eq_some_iff.1 hx
        obtain ⟨g', cs1, e1, -, -, hK, hC, -⟩ := hown.get j hj
        obtain rfl : g = g' := by simpa using e1
        obtain rfl : cs1 = [.string (c.map (litS l))[j]] := hK
        have h := hC.c0
        rw [show Rd.string.sz = 1 from rfl, Nat.mul_one] at h
        rw [Nat.zero_add]
        exact h
      have hcap := hown.len
      have HJ : Hid (Calls Tryd.prog 36 #[.slice (some ⟨g, 0, none⟩) c.length cd, .string ⟨#[32, 124, 32]⟩] wr fun e w' => e = .returned (.string (clauseS l c)) ∧ Below wr.heap.size wr w') := Lib.hid (by
       have h0 := Tryd.strings_Join g 0 cd (c.map (litS l)) ⟨#[32, 124, 32]⟩ wr hcells hgl (by simp; omega) (by have := hcap.2.1; simpa using this) (by
        have h := join_le ((c.map (litS l)).map (·.data.toList)) [32, 124, 32] 30100 (fun x hx => by
          obtain ⟨y, hy, rfl⟩ := List.mem_map.1 hx
          obtain ⟨z, hz, rfl⟩ := List.mem_map.1 hy
          have := litS_le l z
          show (litS l z).data.toList.length + 3 ≤ 30100
          rw [Array.length_toList]
          exact Nat.le_trans (Nat.add_le_add_right this 3) (by decide))
        simp only [List.length_map] at h
        refine Nat.le_trans h ?_
        have : c.length * 30100 ≤ 16 * 30100 := Nat.mul_le_mul_right _ hc16
        omega)
       rw [List.length_map] at h0
       exact h0)
      clear hown hcells hcap
      go_wp2_with fail
      refine Calls.mono HJ.out ?_
      rintro e w9 ⟨rfl, hb9⟩
      go_wp2_with fail
      go_ret2
      exact ⟨rfl, hR.out.1.trans (hb9.mono hR.out.1.size)⟩

set_option maxRecDepth 100000 in
set_option maxHeartbeats 1000000 in
theorem clause_Text_none (l : List Sy) (D : Nat → Prop) (w : World) (As Ac : Option Addr) (cs cc : Nat) (hS : Sy.rd.Sl D w As cs l) (hcc : cc ≤ 9223372036854775807) (he : clauseE l [] = 0) :
    Calls Tryd.prog 13 #[.agg #[.slice As l.length cs], .slice Ac 0 cc] w fun e w' => e = .returned (.tuple #[.string ⟨#[36, 102, 97, 108, 115, 101]⟩, .int .i64 0]) ∧ Below w.heap.size w w' := by
  have HC := Lib.hid (fun W hb => clause_Check l [] D W As Ac cs cc (Rd.Sl.below (w' := W) hS hb) ⟨Nat.zero_le _, hcc, by simp, .inl rfl⟩)
  have B1 := Lib.hid ((Below.refl w.heap.size w).alloc (Nat.le_refl _) (.cells #[.slice As l.length cs] 47))
  rw [he] at HC
  simp only [List.length_nil] at HC
  clear hS he
  go_enter Tryd.func13, Tryd.ntmps13
  go_wp2_with fail
  refine (HC.out _ B1.out).mono ?_
  rintro e w1 ⟨rfl, hb1⟩
  go_wp2_with fail
  go_ret2
  exact ⟨rfl, B1.out.trans (hb1.mono (by simp))⟩
end Go.Proofs.YtkgkdfhipgjobaaDoor
