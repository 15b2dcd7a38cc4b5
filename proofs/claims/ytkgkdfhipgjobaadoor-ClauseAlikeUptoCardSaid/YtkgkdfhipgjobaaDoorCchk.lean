/- clause.Check, clause.True, clause.Size: what they answer. -/
import Derived.Test.YtkgkdfhipgjobaaDoorTchk
namespace Go.Proofs.YtkgkdfhipgjobaaDoor
open Go.RowKit
set_option linter.unusedVariables false
set_option linter.unusedSimpArgs false
attribute [local go_sem ↓] Go.wp_at_zero Go.wp_at_succ

def Tm.trueB (t : Tm) : Bool := t.hd == 0 && t.args.length == 0
set_option maxHeartbeats 1000000 in
theorem clause_True (t : Tm) (w : World) (A : Option Addr) (c : Nat) :
    Calls Tryd.prog 35 #[.agg #[.int .i64 t.hd, .slice A t.args.length c]] w fun e w' => e = .returned (.bool t.trueB) ∧ Below w.heap.size w w' := by
  have hb := Lib.hid ((Below.refl w.heap.size w).alloc (Nat.le_refl _) (.cells #[.int .i64 t.hd, .slice A t.args.length c] 30))
  obtain ⟨f, l⟩ := t
  simp only [Tm.hd, Tm.args]
  by_cases h0 : f = 0
  · have d0 : (f == 0) = true := by simpa using h0
    by_cases h1 : l.length = 0
    · have d1 : ((l.length : Int) == 0) = true := by simp; exact List.eq_nil_of_length_eq_zero h1
      have d2 : (l.length == 0) = true := by simp; exact List.eq_nil_of_length_eq_zero h1
      have hv : Hid ((Tm.mk f l).trueB = true) := Lib.hid (by simp only [Tm.trueB, Tm.hd, Tm.args, d0, d2]; rfl)
      clear h0 h1
      go_enter Tryd.func35, Tryd.ntmps35
      go_wp2_with fail
      go_ret
      exact ⟨ret_bool (by rw [hv.out]), hb.out⟩
    · have d1 : ((l.length : Int) == 0) = false := by rw [beq_eq_false_iff_ne]; omega
      have d2 : (l.length == 0) = false := by rw [beq_eq_false_iff_ne]; omega
      have hv : Hid ((Tm.mk f l).trueB = false) := Lib.hid (by simp only [Tm.trueB, Tm.hd, Tm.args, d0, d2]; rfl)
      clear h0 h1
      go_enter Tryd.func35, Tryd.ntmps35
      go_wp2_with fail
      go_ret
      exact ⟨ret_bool (by rw [hv.out]), hb.out⟩
  · have d0 : (f == 0) = false := by simpa using h0
    have hv : Hid ((Tm.mk f l).trueB = false) := Lib.hid (by simp only [Tm.trueB, Tm.hd, Tm.args, d0]; rfl)
    clear h0
    go_enter Tryd.func35, Tryd.ntmps35
    go_wp2_with fail
    go_ret
    exact ⟨ret_bool (by rw [hv.out]), hb.out⟩

def predB (l : List Sy) (t : Tm) : Bool := if t.hd < 0 then false else match l[t.hd.toNat]? with
  | none => false
  | some s => s.pred
theorem pred_ent : Ent Tryd.prog 44 := ent_of Tryd.func44 (by kernel_rfl) rfl
set_option maxHeartbeats 1000000 in
theorem pred_any (l : List Sy) (D : Nat → Prop) (bs cs : Nat) (As : Option Addr) (t : Tm) (ht : t.hd < (l.length : Int)) (w : World) (A : Option Addr) (c : Nat) (hs : w.cell? ⟨bs, 0, none⟩ = some (.slice As l.length cs)) (hS : Sy.rd.Sl D w As cs l) :
    Calls Tryd.prog 44 #[.agg #[.int .i64 t.hd, .slice A t.args.length c], .pointer (some ⟨bs, 0, none⟩)] w fun e w' => e = .returned (.bool (predB l t)) ∧ Below w.heap.size w w' := by
  have hb := Lib.hid ((Below.refl w.heap.size w).alloc (Nat.le_refl _) (.cells #[.int .i64 t.hd, .slice A t.args.length c] 30))
  have hsl := World.block_lt_of_cell? _ _ hs
  simp only at hsl
  have hs1 := fun o => cell_new hs o
  have hls : l.length ≤ 9223372036854775807 := Nat.le_trans hS.le hS.mx
  have hls2 := hS.le
  have hls3 : cs ≤ 9223372036854775807 := hS.mx
  by_cases hneg : t.hd < 0
  · have d0 : decide (0 ≤ t.hd) = false := by simp; omega
    have hv : Hid (predB l t = false) := Lib.hid (by unfold predB; rw [if_pos hneg])
    clear hneg ht hS
    go_enter Tryd.func44, Tryd.ntmps44
    go_wp2_with fail
    go_ret
    exact ⟨ret_bool (by rw [hv.out]), hb.out⟩
  · have d0 : decide (0 ≤ t.hd) = true := by simp; omega
    obtain ⟨i, hi⟩ : ∃ i : Nat, t.hd = (i : Int) := ⟨t.hd.toNat, by omega⟩
    have hil : i < l.length := by omega
    obtain ⟨b', o', rfl, hDb', s0, s1, s2⟩ := Sy.get_ (hS.below hb.out) i hil
    have hv : Hid (predB l t = l[i].pred) := Lib.hid (by unfold predB; rw [if_neg hneg, hi]; simp [hil])
    have hi0 : (0 : Int) ≤ (i : Int) := by omega
    have hil' : (i : Int) < (l.length : Int) := by omega
    rw [hi] at hb d0 ⊢
    rw [hi] at s2
    have hlt := World.block_lt_of_cell? _ _ s2
    simp only [World.size_alloc] at hlt
    clear hneg ht hS hi s0 s1
    go_enter Tryd.func44, Tryd.ntmps44
    go_wp2_with fail
    go_ret
    exact ⟨ret_bool (by rw [hv.out]), hb.out⟩

/-- May a literal be over a signature? -/
def litE (l : List Sy) (x : Lt) : Bool := termE l x.l == 0 && (termE l x.r == 0 && (predB l x.l == predB l x.r && !(predB l x.l && (x.l.trueB || !x.r.trueB))))
def clauseE (l : List Sy) (c : List Lt) : Int := if signE l ≠ 0 ∨ 16 < c.length then 2 else if c.all (litE l) then 0 else 2
theorem termE_hd {l : List Sy} {t : Tm} (h : termE l t = 0) : t.hd < (l.length : Int) := by
  unfold termE at h
  split at h
  · simp at h
  · split at h
    · simp at h
    · split at h
      · rename_i hr
        cases t with
        | mk f a =>
          rw [Tm.eachF_mk] at hr
          by_cases hs : (chkStep l (.mk f a) true).1 = true
          · simp only [chkStep, fitB] at hs
            by_cases hf : f < 0
            · show f < _; omega
            · rw [if_neg (show ¬ (Tm.mk f a).hd < 0 from hf)] at hs
              show f < _
              cases hg : l[(Tm.mk f a).hd.toNat]? with
              | none => rw [hg] at hs; simp at hs
              | some s =>
                have := (List.getElem?_eq_some_iff.1 hg).1
                have h2 : (Tm.mk f a).hd = f := rfl
                rw [h2] at this
                omega
          · rw [if_neg hs] at hr
            simp at hr
      · simp at h
/-- The literal's box and the signature's. -/
def Box6 (w : World) (g bs : Nat) (v0 v1 v2 v3 v4 vs : Value) : Prop := w.cell? ⟨g, 0, none⟩ = some v0 ∧ w.cell? ⟨g, 1, none⟩ = some v1 ∧ w.cell? ⟨g, 2, none⟩ = some v2 ∧ w.cell? ⟨g, 3, none⟩ = some v3 ∧ w.cell? ⟨g, 4, none⟩ = some v4 ∧ w.cell? ⟨bs, 0, none⟩ = some vs
theorem Box6.s {w : World} {g bs : Nat} {v0 v1 v2 v3 v4 vs : Value} (h : Box6 w g bs v0 v1 v2 v3 v4 vs) : w.cell? ⟨bs, 0, none⟩ = some vs := by unfold Box6 at h; exact h.2.2.2.2.2
theorem Box6.below {w w' : World} {g bs : Nat} {v0 v1 v2 v3 v4 vs : Value} (h : Box6 w g bs v0 v1 v2 v3 v4 vs) (hb : Below w.heap.size w w') : Box6 w' g bs v0 v1 v2 v3 v4 vs := by
  have hl := World.block_lt_of_cell? w _ h.1
  have hl2 := World.block_lt_of_cell? w _ h.2.2.2.2.2
  have e := fun o => (bcell hb).1 g o hl
  exact ⟨(e 0).trans h.1, (e 1).trans h.2.1, (e 2).trans h.2.2.1, (e 3).trans h.2.2.2.1, (e 4).trans h.2.2.2.2.1, ((bcell hb).1 bs 0 hl2).trans h.2.2.2.2.2⟩

set_option maxRecDepth 100000 in
set_option maxHeartbeats 4000000 in
theorem clause_Check (l : List Sy) (c : List Lt) (D : Nat → Prop) (w : World) (As Ac : Option Addr) (cs cc : Nat) (hS : Sy.rd.Sl D w As cs l) (hC : Lt.rd.Sl D w Ac cc c) :
    Calls Tryd.prog 33 #[.agg #[.slice As l.length cs], .slice Ac c.length cc] w fun e w' => e = .returned (.int .i64 (clauseE l c)) ∧ Below w.heap.size w w' := by
  have HS := Lib.hid (fun W hb => Rd.Sl.below (w' := W) hS hb)
  have HCl := Lib.hid (fun W hb => Rd.Sl.below (w' := W) hC hb)
  have HG := Lib.hid (fun W hb => sign_Check l D W As cs (Rd.Sl.below (w' := W) hS hb))
  have B1 := Lib.hid ((Below.refl w.heap.size w).alloc (Nat.le_refl _) (.cells #[.slice As l.length cs] 47))
  have hcl : c.length ≤ 9223372036854775807 := Nat.le_trans hC.le hC.mx
  have hcl2 := hC.le
  have hcl3 : cc ≤ 9223372036854775807 := hC.mx
  obtain ⟨e1, he1⟩ : ∃ e1, signE l = e1 := ⟨_, rfl⟩
  rw [he1] at HG
  clear hS hC
  by_cases h0 : e1 = 0
  · subst h0
    by_cases h16 : 16 < c.length
    · have d16 : decide ((16 : Int) < (c.length : Int)) = true := decide_eq_true (by omega)
      have hv : Hid (clauseE l c = 2) := Lib.hid (by unfold clauseE; rw [if_pos (.inr h16)])
      clear he1 h16
      go_enter Tryd.func33, Tryd.ntmps33
      go_wp2_with fail
      refine (HG.out _ B1.out).mono ?_
      rintro e w1 ⟨rfl, hb1⟩
      go_wp2_with fail
      go_ret
      exact ⟨ret_int hv.out.symm, B1.out.trans (hb1.mono (by simp))⟩
    · have d16 : decide ((16 : Int) < (c.length : Int)) = false := decide_eq_false (by omega)
      have hv : Hid (clauseE l c = if c.all (litE l) then 0 else 2) := Lib.hid (by unfold clauseE; rw [if_neg (by rw [he1]; omega)])
      have ent : ∀ (args : Array Value) (w : World), (callFunc 44 args).run Tryd.prog w = .ok (.enter 44 args) w := pred_ent
      clear he1 h16
      go_enter Tryd.func33, Tryd.ntmps33
      go_wp2_with fail
      refine (HG.out _ B1.out).mono ?_
      rintro e w1 ⟨rfl, hb1⟩
      have b0 : w1.cell? ⟨w.heap.size, 0, none⟩ = some (.slice As l.length cs) := (hb1.cell (by simp)).trans (by simp [go_sem])
      have HB1 := Lib.hid (B1.out.trans (hb1.mono (by simp)))
      clear hb1
      go_wp2_with fail
      go_loopw [19] (fun i wr => ∃ k : Nat, k ≤ c.length ∧ i = .int .i64 k ∧ Hid (Below w.heap.size w wr ∧ wr.cell? ⟨w.heap.size, 0, none⟩ = some (.slice As l.length cs) ∧ ∀ x ∈ c.take k, litE l x = true)) (fun i _ => c.length - (intOf i).toNat)
      case atStart => exact ⟨0, Nat.zero_le _, rfl, Lib.hid ⟨HB1.out, b0, by simp⟩⟩
      case round =>
        obtain ⟨k, hk, rfl, hR⟩ := hrel
        by_cases hlt : k < c.length
        · have hlss : decide ((k : Int) < (c.length : Int)) = true := decide_eq_true (by omega)
          obtain ⟨b_, o_, A1, c1, A2, c2, rfl, hDb, hK1, hK2, x0, x1, x2, x3, x4⟩ := Lt.get_ (HCl.out _ hR.out.1) k hlt
          have hkl := World.block_lt_of_cell? _ _ x0
          simp only at hkl
          have hwz := hR.out.1.size
          have hbw := World.block_lt_of_cell? _ _ hR.out.2.1
          simp only at hbw
          have b1 := fun o => cell_new hR.out.2.1 o
          have htk : c.take (k + 1) = c.take k ++ [c[k]] := by rw [List.take_succ_eq_append_getElem hlt]
          have HTk := Lib.hid htk
          have HBx := Lib.hid (hR.out.1.alloc hwz (.cells #[.bool c[k].neg, .int .i64 c[k].l.hd, .slice A1 c[k].l.args.length c1, .int .i64 c[k].r.hd, .slice A2 c[k].r.args.length c2] 32))
          have H6 := Lib.hid (show Box6 (wr.alloc (.cells #[.bool c[k].neg, .int .i64 c[k].l.hd, .slice A1 c[k].l.args.length c1, .int .i64 c[k].r.hd, .slice A2 c[k].r.args.length c2] 32)) wr.heap.size w.heap.size (.bool c[k].neg) (.int .i64 c[k].l.hd) (.slice A1 c[k].l.args.length c1) (.int .i64 c[k].r.hd) (.slice A2 c[k].r.args.length c2) (.slice As l.length cs) from by
            have G := blk_alloc_new wr (.cells #[.bool c[k].neg, .int .i64 c[k].l.hd, .slice A1 c[k].l.args.length c1, .int .i64 c[k].r.hd, .slice A2 c[k].r.args.length c2] 32)
            exact ⟨by rw [blk_cell G]; rfl, by rw [blk_cell G]; rfl, by rw [blk_cell G]; rfl, by rw [blk_cell G]; rfl, by rw [blk_cell G]; rfl, b1 _⟩)
          have HTl := Lib.hid (fun W (hb : Below w.heap.size w W) (hb2 : Below wr.heap.size wr W) => term_Check l c[k].l D W As A1 cs c1 (HS.out _ hb) (Rd.below (d := Tm.rd) (w' := W) hK1 hb2))
          have HTr := Lib.hid (fun W (hb : Below w.heap.size w W) (hb2 : Below wr.heap.size wr W) => term_Check l c[k].r D W As A2 cs c2 (HS.out _ hb) (Rd.below (d := Tm.rd) (w' := W) hK2 hb2))
          have hfail : Hid (litE l c[k] = false → clauseE l c = 2) := Lib.hid (fun hf => by rw [hv.out, if_neg]; intro h; have := List.all_eq_true.1 h _ (List.getElem_mem hlt); rw [hf] at this; simp at this)
          have BW0 := Lib.hid ((Below.refl wr.heap.size wr).alloc (Nat.le_refl _) (.cells #[.bool c[k].neg, .int .i64 c[k].l.hd, .slice A1 c[k].l.args.length c1, .int .i64 c[k].r.hd, .slice A2 c[k].r.args.length c2] 32))
          obtain ⟨E1, hE1⟩ : ∃ E1, termE l c[k].l = E1 := ⟨_, rfl⟩
          obtain ⟨E2, hE2⟩ : ∃ E2, termE l c[k].r = E2 := ⟨_, rfl⟩
          rw [hE1] at HTl
          rw [hE2] at HTr
          clear htk hK1 hK2
          by_cases z1 : E1 = 0
          · subst z1
            by_cases z2 : E2 = 0
            · subst z2
              have HPl := Lib.hid (fun W (hb : Below w.heap.size w W) (hs : W.cell? ⟨w.heap.size, 0, none⟩ = some (.slice As l.length cs)) => pred_any l D w.heap.size cs As c[k].l (termE_hd hE1) W A1 c1 hs (HS.out _ hb))
              have HPr := Lib.hid (fun W (hb : Below w.heap.size w W) (hs : W.cell? ⟨w.heap.size, 0, none⟩ = some (.slice As l.length cs)) => pred_any l D w.heap.size cs As c[k].r (termE_hd hE2) W A2 c2 hs (HS.out _ hb))
              have HUl := Lib.hid (fun W => clause_True c[k].l W A1 c1)
              have HUr := Lib.hid (fun W => clause_True c[k].r W A2 c2)
              have hlit : Hid (litE l c[k] = (predB l c[k].l == predB l c[k].r && !(predB l c[k].l && (c[k].l.trueB || !c[k].r.trueB)))) := Lib.hid (by unfold litE; rw [hE1, hE2]; rfl)
              clear hE1 hE2
              go_wp2_with fail
              refine (HTl.out _ HBx.out BW0.out).mono ?_
              rintro e w2 ⟨rfl, hb2⟩
              have H62 := Lib.hid (H6.out.below hb2)
              have HB2 := Lib.hid (And.intro (HBx.out.trans (hb2.mono (by simp; omega))) (BW0.out.trans (hb2.mono (by simp))))
              clear hb2
              obtain ⟨y0, y1, y2, y3, y4, ys⟩ := H62.out
              go_wp2_with fail
              refine (HTr.out _ HB2.out.1 HB2.out.2).mono ?_
              rintro e w3 ⟨rfl, hb3⟩
              have H63 := Lib.hid (H62.out.below hb3)
              have HB3 := Lib.hid (HB2.out.1.trans (hb3.mono HB2.out.1.size))
              clear hb3 y0 y1 y2 y3 y4 ys
              obtain ⟨y0, y1, y2, y3, y4, ys⟩ := H63.out
              cases hpl : predB l c[k].l with
              | false =>
                rw [hpl] at HPl hlit
                cases hpr : predB l c[k].r with
                | false =>
                  rw [hpr] at HPr hlit
                  have Hpl := Lib.hid (And.intro hpl hpr)
                  clear hpl hpr
                  go_upto_region 10 with fail
                  have HPl3 := Lib.hid (HPl.out w3.drew HB3.out.drew ys)
                  go_region_held3 (fun w' => w'.cell? ⟨wr.heap.size, 0, none⟩ = some (.bool c[k].neg) ∧ w'.cell? ⟨wr.heap.size, 1, none⟩ = some (.int .i64 c[k].l.hd) ∧ w'.cell? ⟨wr.heap.size, 2, none⟩ = some (.slice A1 c[k].l.args.length c1) ∧ w'.cell? ⟨wr.heap.size, 3, none⟩ = some (.int .i64 c[k].r.hd) ∧ w'.cell? ⟨wr.heap.size, 4, none⟩ = some (.slice A2 c[k].r.args.length c2) ∧ w'.cell? ⟨w.heap.size, 0, none⟩ = some (.slice As l.length cs)) (first | exact H63.out | exact hH4.out | exact hH5.out)
                    (first | (go_at_call 44; (with_reducible refine Calls.mono HPl3.out ?_); rintro e w4 ⟨rfl, hb4⟩; have hb4' : Below w3.heap.size w3 w4 := (Below.refl w3.heap.size w3).drew.trans hb4; have hH4 := Lib.hid (H63.out.below hb4'); have HB4 := Lib.hid (HB3.out.trans (hb4'.mono HB3.out.size)); have HPr4 := Lib.hid (HPr.out w4 HB4.out hH4.out.s); clear hb4 hb4') | (go_at_call 44; (with_reducible refine Calls.mono HPr4.out ?_); rintro e w5 ⟨rfl, hb5⟩; have hH5 := Lib.hid (hH4.out.below hb5); have HB5 := Lib.hid (HB4.out.trans (hb5.mono HB4.out.size)); clear hb5))
                  have hok : Hid (litE l c[k] = true) := Lib.hid (by rw [hlit.out]; rfl)
                  clear y0 y1 y2 y3 y4 ys
                  obtain ⟨u0, u1, u2, u3, u4', us⟩ := hH5.out
                  have HPl5 := Lib.hid (HPl.out w5 HB5.out us)
                  go_wp2_with fail
                  refine Calls.mono HPl5.out ?_
                  rintro e w6 ⟨rfl, hb6⟩
                  have hH6 := Lib.hid (hH5.out.below hb6)
                  have HB6 := Lib.hid (HB5.out.trans (hb6.mono HB5.out.size))
                  clear hb6 u0 u1 u2 u3 u4' us
                  go_wp2_with fail
                  go_roundw
                  case rel =>
                    refine ⟨k + 1, hlt, by go_num, Lib.hid ⟨HB6.out, hH6.out.s, ?_⟩⟩
                    rw [HTk.out]
                    intro x hx
                    rcases List.mem_append.1 hx with h | h
                    · exact hR.out.2.2 x h
                    · rw [List.mem_singleton.1 h]; exact hok.out
                  case measure => simp [intOf]; omega
                | true =>
                  rw [hpr] at HPr hlit
                  have Hpl := Lib.hid (And.intro hpl hpr)
                  clear hpl hpr
                  go_upto_region 10 with fail
                  have HPl3 := Lib.hid (HPl.out w3.drew HB3.out.drew ys)
                  go_region_held3 (fun w' => w'.cell? ⟨wr.heap.size, 0, none⟩ = some (.bool c[k].neg) ∧ w'.cell? ⟨wr.heap.size, 1, none⟩ = some (.int .i64 c[k].l.hd) ∧ w'.cell? ⟨wr.heap.size, 2, none⟩ = some (.slice A1 c[k].l.args.length c1) ∧ w'.cell? ⟨wr.heap.size, 3, none⟩ = some (.int .i64 c[k].r.hd) ∧ w'.cell? ⟨wr.heap.size, 4, none⟩ = some (.slice A2 c[k].r.args.length c2) ∧ w'.cell? ⟨w.heap.size, 0, none⟩ = some (.slice As l.length cs)) (first | exact H63.out | exact hH4.out | exact hH5.out)
                    (first | (go_at_call 44; (with_reducible refine Calls.mono HPl3.out ?_); rintro e w4 ⟨rfl, hb4⟩; have hb4' : Below w3.heap.size w3 w4 := (Below.refl w3.heap.size w3).drew.trans hb4; have hH4 := Lib.hid (H63.out.below hb4'); have HB4 := Lib.hid (HB3.out.trans (hb4'.mono HB3.out.size)); have HPr4 := Lib.hid (HPr.out w4 HB4.out hH4.out.s); clear hb4 hb4') | (go_at_call 44; (with_reducible refine Calls.mono HPr4.out ?_); rintro e w5 ⟨rfl, hb5⟩; have hH5 := Lib.hid (hH4.out.below hb5); have HB5 := Lib.hid (HB4.out.trans (hb5.mono HB4.out.size)); clear hb5))
                  have hfin : Hid (clauseE l c = 2) := Lib.hid (hfail.out (by rw [hlit.out]; rfl))
                  clear y0 y1 y2 y3 y4 ys
                  go_wp2_with fail
                  go_ret
                  exact ⟨ret_int hfin.out.symm, HB5.out⟩
              | true =>
                rw [hpl] at HPl hlit
                cases hpr : predB l c[k].r with
                | false =>
                  rw [hpr] at HPr hlit
                  have Hpl := Lib.hid (And.intro hpl hpr)
                  clear hpl hpr
                  go_upto_region 10 with fail
                  have HPl3 := Lib.hid (HPl.out w3.drew HB3.out.drew ys)
                  go_region_held3 (fun w' => w'.cell? ⟨wr.heap.size, 0, none⟩ = some (.bool c[k].neg) ∧ w'.cell? ⟨wr.heap.size, 1, none⟩ = some (.int .i64 c[k].l.hd) ∧ w'.cell? ⟨wr.heap.size, 2, none⟩ = some (.slice A1 c[k].l.args.length c1) ∧ w'.cell? ⟨wr.heap.size, 3, none⟩ = some (.int .i64 c[k].r.hd) ∧ w'.cell? ⟨wr.heap.size, 4, none⟩ = some (.slice A2 c[k].r.args.length c2) ∧ w'.cell? ⟨w.heap.size, 0, none⟩ = some (.slice As l.length cs)) (first | exact H63.out | exact hH4.out | exact hH5.out)
                    (first | (go_at_call 44; (with_reducible refine Calls.mono HPl3.out ?_); rintro e w4 ⟨rfl, hb4⟩; have hb4' : Below w3.heap.size w3 w4 := (Below.refl w3.heap.size w3).drew.trans hb4; have hH4 := Lib.hid (H63.out.below hb4'); have HB4 := Lib.hid (HB3.out.trans (hb4'.mono HB3.out.size)); have HPr4 := Lib.hid (HPr.out w4 HB4.out hH4.out.s); clear hb4 hb4') | (go_at_call 44; (with_reducible refine Calls.mono HPr4.out ?_); rintro e w5 ⟨rfl, hb5⟩; have hH5 := Lib.hid (hH4.out.below hb5); have HB5 := Lib.hid (HB4.out.trans (hb5.mono HB4.out.size)); clear hb5))
                  have hfin : Hid (clauseE l c = 2) := Lib.hid (hfail.out (by rw [hlit.out]; rfl))
                  clear y0 y1 y2 y3 y4 ys
                  go_wp2_with fail
                  go_ret
                  exact ⟨ret_int hfin.out.symm, HB5.out⟩
                | true =>
                  rw [hpr] at HPr hlit
                  have Hpl := Lib.hid (And.intro hpl hpr)
                  clear hpl hpr
                  go_upto_region 10 with fail
                  have HPl3 := Lib.hid (HPl.out w3.drew HB3.out.drew ys)
                  go_region_held3 (fun w' => w'.cell? ⟨wr.heap.size, 0, none⟩ = some (.bool c[k].neg) ∧ w'.cell? ⟨wr.heap.size, 1, none⟩ = some (.int .i64 c[k].l.hd) ∧ w'.cell? ⟨wr.heap.size, 2, none⟩ = some (.slice A1 c[k].l.args.length c1) ∧ w'.cell? ⟨wr.heap.size, 3, none⟩ = some (.int .i64 c[k].r.hd) ∧ w'.cell? ⟨wr.heap.size, 4, none⟩ = some (.slice A2 c[k].r.args.length c2) ∧ w'.cell? ⟨w.heap.size, 0, none⟩ = some (.slice As l.length cs)) (first | exact H63.out | exact hH4.out | exact hH5.out)
                    (first | (go_at_call 44; (with_reducible refine Calls.mono HPl3.out ?_); rintro e w4 ⟨rfl, hb4⟩; have hb4' : Below w3.heap.size w3 w4 := (Below.refl w3.heap.size w3).drew.trans hb4; have hH4 := Lib.hid (H63.out.below hb4'); have HB4 := Lib.hid (HB3.out.trans (hb4'.mono HB3.out.size)); have HPr4 := Lib.hid (HPr.out w4 HB4.out hH4.out.s); clear hb4 hb4') | (go_at_call 44; (with_reducible refine Calls.mono HPr4.out ?_); rintro e w5 ⟨rfl, hb5⟩; have hH5 := Lib.hid (hH4.out.below hb5); have HB5 := Lib.hid (HB4.out.trans (hb5.mono HB4.out.size)); clear hb5))
                  clear y0 y1 y2 y3 y4 ys
                  obtain ⟨u0, u1, u2, u3, u4', us⟩ := hH5.out
                  have HPl5 := Lib.hid (HPl.out w5 HB5.out us)
                  go_wp2_with fail
                  refine Calls.mono HPl5.out ?_
                  rintro e w6 ⟨rfl, hb6⟩
                  have hH6 := Lib.hid (hH5.out.below hb6)
                  have HB6 := Lib.hid (HB5.out.trans (hb6.mono HB5.out.size))
                  clear hb6 u0 u1 u2 u3 u4' us
                  obtain ⟨u0, u1, u2, u3, u4', us⟩ := hH6.out
                  cases htl : c[k].l.trueB with
                  | true =>
                    rw [htl] at HUl hlit
                    have hfin : Hid (clauseE l c = 2) := Lib.hid (hfail.out (by rw [hlit.out]; rfl))
                    clear htl
                    go_wp2_with fail
                    refine (HUl.out _).mono ?_
                    rintro e w7 ⟨rfl, hb7⟩
                    go_wp2_with fail
                    go_ret
                    exact ⟨ret_int hfin.out.symm, HB6.out.trans (hb7.mono HB6.out.size)⟩
                  | false =>
                    rw [htl] at HUl hlit
                    clear htl
                    go_wp2_with fail
                    refine (HUl.out _).mono ?_
                    rintro e w7 ⟨rfl, hb7⟩
                    have hH7 := Lib.hid (hH6.out.below hb7)
                    have HB7 := Lib.hid (HB6.out.trans (hb7.mono HB6.out.size))
                    clear hb7 u0 u1 u2 u3 u4' us
                    obtain ⟨u0, u1, u2, u3, u4', us⟩ := hH7.out
                    cases htr : c[k].r.trueB with
                    | false =>
                      rw [htr] at HUr hlit
                      have hfin : Hid (clauseE l c = 2) := Lib.hid (hfail.out (by rw [hlit.out]; rfl))
                      clear htr
                      go_wp2_with fail
                      refine (HUr.out _).mono ?_
                      rintro e w8 ⟨rfl, hb8⟩
                      go_wp2_with fail
                      go_ret
                      exact ⟨ret_int hfin.out.symm, HB7.out.trans (hb8.mono HB7.out.size)⟩
                    | true =>
                      rw [htr] at HUr hlit
                      have hok : Hid (litE l c[k] = true) := Lib.hid (by rw [hlit.out]; rfl)
                      clear htr
                      go_wp2_with fail
                      refine (HUr.out _).mono ?_
                      rintro e w8 ⟨rfl, hb8⟩
                      have hH8 := Lib.hid (hH7.out.below hb8)
                      have HB8 := Lib.hid (HB7.out.trans (hb8.mono HB7.out.size))
                      clear hb8 u0 u1 u2 u3 u4' us
                      go_wp2_with fail
                      go_roundw
                      case rel =>
                        refine ⟨k + 1, hlt, by go_num, Lib.hid ⟨HB8.out, hH8.out.s, ?_⟩⟩
                        rw [HTk.out]
                        intro x hx
                        rcases List.mem_append.1 hx with h | h
                        · exact hR.out.2.2 x h
                        · rw [List.mem_singleton.1 h]; exact hok.out
                      case measure => simp [intOf]; omega
            · have hn2 : (E2 != 0) = true := by simpa using z2
              have hfin : Hid (clauseE l c = 2) := Lib.hid (hfail.out (by unfold litE; rw [hE2]; simp [z2]))
              clear hE1 hE2 z2
              go_wp2_with fail
              refine (HTl.out _ HBx.out BW0.out).mono ?_
              rintro e w2 ⟨rfl, hb2⟩
              have H62 := Lib.hid (H6.out.below hb2)
              have HB2 := Lib.hid (And.intro (HBx.out.trans (hb2.mono (by simp; omega))) (BW0.out.trans (hb2.mono (by simp))))
              clear hb2
              obtain ⟨y0, y1, y2, y3, y4, ys⟩ := H62.out
              go_wp2_with fail
              refine (HTr.out _ HB2.out.1 HB2.out.2).mono ?_
              rintro e w3 ⟨rfl, hb3⟩
              go_wp2_with fail
              go_ret
              exact ⟨ret_int hfin.out.symm, HB2.out.1.trans (hb3.mono HB2.out.1.size)⟩
          · have hn1 : (E1 != 0) = true := by simpa using z1
            have hfin : Hid (clauseE l c = 2) := Lib.hid (hfail.out (by unfold litE; rw [hE1]; simp [z1]))
            clear hE1 hE2 z1
            go_wp2_with fail
            refine (HTl.out _ HBx.out BW0.out).mono ?_
            rintro e w2 ⟨rfl, hb2⟩
            go_wp2_with fail
            go_ret
            exact ⟨ret_int hfin.out.symm, HBx.out.trans (hb2.mono (by simp; omega))⟩
        · obtain rfl : k = c.length := by omega
          have hlss : decide ((c.length : Int) < (c.length : Int)) = false := by simp
          have hfin : Hid (clauseE l c = 0) := Lib.hid (by
            rw [hv.out, if_pos]
            have := hR.out.2.2
            rw [List.take_length] at this
            exact List.all_eq_true.2 this)
          go_wp2_with fail
          go_ret
          exact ⟨ret_int hfin.out.symm, hR.out.1⟩
  · have hne0 : (e1 != 0) = true := by simpa using h0
    have hv : Hid (clauseE l c = 2) := Lib.hid (by unfold clauseE; rw [if_pos (.inl (by rw [he1]; exact h0))])
    clear he1 h0
    go_enter Tryd.func33, Tryd.ntmps33
    go_wp2_with fail
    refine (HG.out _ B1.out).mono ?_
    rintro e w1 ⟨rfl, hb1⟩
    go_wp2_with fail
    go_ret
    exact ⟨ret_int hv.out.symm, B1.out.trans (hb1.mono (by simp))⟩
end Go.Proofs.YtkgkdfhipgjobaaDoor
