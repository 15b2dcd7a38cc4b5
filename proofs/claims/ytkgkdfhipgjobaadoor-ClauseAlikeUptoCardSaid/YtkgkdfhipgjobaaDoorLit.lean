/- match.atom, match.lit, (*Matcher).Lit. -/
import Derived.Test.YtkgkdfhipgjobaaDoorMTerm
namespace Go.Proofs.YtkgkdfhipgjobaaDoor
open Go.RowKit
set_option linter.unusedVariables false
set_option linter.unusedSimpArgs false

def Tm.isTrue (t : Tm) : Bool := t.hd == 0 && t.args.length == 0
def Lt.atom (x : Lt) : Bool := x.l.isTrue || x.r.isTrue
def litF (p x : Lt) (σ : Sg) : Option Sg := if p.neg = x.neg ∧ p.atom = x.atom then (termF p.l x.l σ).bind (termF p.r x.r) else none

/-- What is bound stays, more may come behind it. -/
theorem Tm.mt_pre : ∀ (p t : Tm) (σ σ' : Sg), p.mt t σ = some σ' → ∃ ext, σ' = σ ++ ext ∧ ext.length ≤ p.nodes := by
  intro p
  induction p using Tm.ind with
  | h f l ih =>
    intro t σ σ' h
    rw [Tm.mt_mk] at h
    rw [Tm.nodes_mk]
    split at h
    · split at h
      · simp at h
        exact ⟨_, h.symm, by simp⟩
      · split at h
        · simp at h
          exact ⟨[], by simp [h], by simp⟩
        · simp at h
    · split at h
      · have key : ∀ (l : List Tm) (ts : List Tm) (σ σ' : Sg), (∀ t ∈ l, ∀ (t_1 : Tm) (σ σ' : Sg), t.mt t_1 σ = some σ' → ∃ ext, σ' = σ ++ ext ∧ ext.length ≤ t.nodes) → Tm.mts l ts σ = some σ' → ∃ ext, σ' = σ ++ ext ∧ ext.length ≤ Tm.nodesL l := by
          intro l
          induction l with
          | nil =>
            intro ts σ σ' _ h
            simp [Tm.mts] at h
            exact ⟨[], by simp [h], by simp⟩
          | cons p ps ihp =>
            intro ts σ σ' hi h
            cases ts with
            | nil => simp [Tm.mts] at h
            | cons t ts =>
              rw [Tm.mts] at h
              obtain ⟨σ1, h1, h2⟩ := Option.bind_eq_some_iff.1 h
              obtain ⟨e1, rfl, l1⟩ := hi p (by simp) t σ σ1 h1
              obtain ⟨e2, rfl, l2⟩ := ihp ts _ σ' (fun q hq => hi q (by simp [hq])) h2
              exact ⟨e1 ++ e2, by simp, by simp [Tm.nodesL]; omega⟩
        obtain ⟨ext, h1, h2⟩ := key l t.args σ σ' ih h
        exact ⟨ext, h1, by omega⟩
      · simp at h
theorem termF_pre {p t : Tm} {σ σ' : Sg} (h : termF p t σ = some σ') : ∃ ext, σ' = σ ++ ext ∧ ext.length ≤ p.nodes := by
  unfold termF at h
  split at h
  · exact Tm.mt_pre p t σ σ' h
  · simp at h
theorem blk_alloc_at (w : World) (o : Obj) (n : Nat) (hn : n = w.heap.size) : (w.alloc o).heap[n]? = some o := by subst hn; exact blk_alloc_new w o
theorem Left.trans {w w1 w2 : World} {M D M1 D1 M2 D2 : Nat → Prop} {bm : Nat} {σ σ' : Sg} (h : Left w M D bm σ w1 M1 D1) (k : Left w1 M1 D1 bm σ' w2 M2 D2) : Left w M D bm σ' w2 M2 D2 :=
  ⟨fun q hq => by rcases k.m q hq with h' | h'; exact h.m q h'; exact .inr (Nat.le_trans h.chg.size h'), fun q hq => k.m0 q (h.m0 q hq),
   fun q hq => by rcases k.d q hq with h' | h'; exact h.d q h'; exact .inr (Nat.le_trans h.chg.size h'), fun q hq => k.d0 q (h.d0 q hq),
   h.chg.trans k.chg (fun i hi hlt => by rcases h.m i hi with h' | h'; exact h'; omega), k.st⟩

theorem Left.of {w W w1 : World} {M D M1 D1 : Nat → Prop} {bm : Nat} {σ : Sg} (h : Left W M D bm σ w1 M1 D1) (hb : Below w.heap.size w W) : Left w M D bm σ w1 M1 D1 :=
  ⟨fun q hq => (h.m q hq).imp id (Nat.le_trans hb.size), h.m0, fun q hq => (h.d q hq).imp id (Nat.le_trans hb.size), h.d0, (Chg.of_below hb M).trans h.chg (fun _ h _ => h), h.st⟩
theorem Left.on {w w1 w2 : World} {M D M1 D1 : Nat → Prop} {bm : Nat} {σ σ' : Sg} (h : Left w M D bm σ w1 M1 D1) (hst : MSt w2 M1 D1 bm σ') (hc : Chg M1 w1 w2) : Left w M D bm σ' w2 M1 D1 :=
  ⟨h.m, h.m0, h.d, h.d0, h.chg.trans hc (fun i hi hlt => by rcases h.m i hi with h' | h'; exact h'; omega), hst⟩
theorem Left.self {w W : World} {M D : Nat → Prop} {bm : Nat} {σ : Sg} (h : MSt w M D bm σ) (hb : Below w.heap.size w W) : Left w M D bm σ W M D :=
  ⟨fun _ h => .inl h, fun _ h => h, fun _ h => .inl h, fun _ h => h, Chg.of_below hb M, h.below hb⟩
theorem Rd.over {α : Type} {d : Rd α} {x : α} {cs : List Value} {w W w3 : World} {Dp M D M1 D1 : Nat → Prop} {bm : Nat} {σ : Sg} (h : d.K Dp w x cs) (hb : Below w.heap.size w W) (hl : Left W M D bm σ w3 M1 D1) (hD : ∀ k, Dp k → ¬ M k) :
    d.K (fun k => Dp k ∧ k < w.heap.size) w3 x cs :=
  d.keep (fun k hk => (hl.chg.block k (Nat.lt_of_lt_of_le hk.2 hb.size) (hD k hk.1)).trans (hb.block k hk.2)) (d.bound h)

set_option maxHeartbeats 1000000 in
theorem atom_any (x : Lt) (w : World) (b o : Nat) (A1 A2 : Option Addr) (c1 c2 : Nat) (h0 : x.l.args.length ≤ 9223372036854775807) (h1 : x.r.args.length ≤ 9223372036854775807)
    (hC : CellsAt w b o [.bool x.neg, .int .i64 x.l.hd, .slice A1 x.l.args.length c1, .int .i64 x.r.hd, .slice A2 x.r.args.length c2]) :
    Calls Tryd.prog 53 #[.pointer (some ⟨b, o, none⟩)] w fun e w' => e = .returned (.bool x.atom) ∧ w = w' := by
  have a1 := hC.c1
  have a2 := hC.c2
  have a3 := hC.c3
  have a4 := hC.c4
  have hv : Hid (x.atom = ((x.l.hd == 0 && x.l.args.length == 0) || (x.r.hd == 0 && x.r.args.length == 0))) := rfl
  generalize x.l.hd = f1 at *
  generalize x.r.hd = f2 at *
  generalize x.l.args.length = n1 at *
  generalize x.r.args.length = n2 at *
  clear hC
  by_cases q1 : f1 = 0 ∧ n1 = 0
  · obtain ⟨rfl, rfl⟩ := q1
    go_enter Tryd.func53, Tryd.ntmps53
    go_wp2_with fail
    go_ret
    exact ⟨by rw [hv.out]; rfl, rfl⟩
  · have p1 : (f1 == 0 && n1 == 0) = false := by
      cases h : (f1 == 0 && n1 == 0)
      · rfl
      · simp at h; exact absurd h q1
    have P1 := Lib.hid p1
    clear p1
    by_cases q2 : f2 = 0 ∧ n2 = 0
    · obtain ⟨rfl, rfl⟩ := q2
      by_cases q3 : f1 = 0
      · have e1 : ((n1 : Int) == 0) = false := by simp; omega
        subst q3
        clear q1
        go_enter Tryd.func53, Tryd.ntmps53
        go_wp2_with fail
        go_ret
        exact ⟨by rw [hv.out]; simp, rfl⟩
      · have e1 : (f1 == 0) = false := by simpa using q3
        clear q1 q3
        go_enter Tryd.func53, Tryd.ntmps53
        go_wp2_with fail
        go_ret
        exact ⟨by rw [hv.out]; simp, rfl⟩
    · have p2 : (f2 == 0 && n2 == 0) = false := by
        cases h : (f2 == 0 && n2 == 0)
        · rfl
        · simp at h; exact absurd h q2
      have P2 := Lib.hid p2
      clear p2
      by_cases q3 : f1 = 0
      · have e1 : ((n1 : Int) == 0) = false := by simp; omega
        subst q3
        by_cases q4 : f2 = 0
        · have e2 : ((n2 : Int) == 0) = false := by simp; omega
          subst q4
          clear q1 q2
          go_enter Tryd.func53, Tryd.ntmps53
          go_wp2_with fail
          go_ret
          exact ⟨by rw [hv.out, P1.out, P2.out]; rfl, rfl⟩
        · have e2 : (f2 == 0) = false := by simpa using q4
          clear q1 q2 q4
          go_enter Tryd.func53, Tryd.ntmps53
          go_wp2_with fail
          go_ret
          exact ⟨by rw [hv.out, P1.out, P2.out]; rfl, rfl⟩
      · have e1 : (f1 == 0) = false := by simpa using q3
        by_cases q4 : f2 = 0
        · have e2 : ((n2 : Int) == 0) = false := by simp; omega
          subst q4
          clear q1 q2 q3
          go_enter Tryd.func53, Tryd.ntmps53
          go_wp2_with fail
          go_ret
          exact ⟨by rw [hv.out, P1.out, P2.out]; rfl, rfl⟩
        · have e2 : (f2 == 0) = false := by simpa using q4
          clear q1 q2 q3 q4
          go_enter Tryd.func53, Tryd.ntmps53
          go_wp2_with fail
          go_ret
          exact ⟨by rw [hv.out, P1.out, P2.out]; rfl, rfl⟩


theorem method_Mark (n : Nat) (a : Addr) (w : World) : (method (n + 1) 52 (.pointer (some a)) "Mark").run Tryd.prog w = .ok (21, .pointer (some a)) w := by kernel_rfl
theorem method_Term (n : Nat) (a : Addr) (w : World) : (method (n + 1) 52 (.pointer (some a)) "Term").run Tryd.prog w = .ok (113, .pointer (some a)) w := by kernel_rfl
theorem method_Back (n : Nat) (a : Addr) (w : World) : (method (n + 1) 52 (.pointer (some a)) "Back").run Tryd.prog w = .ok (23, .pointer (some a)) w := by kernel_rfl
set_option maxRecDepth 100000 in
set_option maxHeartbeats 2000000 in
theorem lit_any (w : World) (M D Dp Dx : Nat → Prop) (bm : Nat) (σ : Sg) (h : MSt w M D bm σ) (p x : Lt) (A1 A2 A3 A4 : Option Addr) (c1 c2 c3 c4 : Nat)
    (hpl : Tm.K Dp w p.l [.int .i64 p.l.hd, .slice A1 p.l.args.length c1]) (hpr : Tm.K Dp w p.r [.int .i64 p.r.hd, .slice A2 p.r.args.length c2]) (hxl : Tm.K Dx w x.l [.int .i64 x.l.hd, .slice A3 x.l.args.length c3]) (hxr : Tm.K Dx w x.r [.int .i64 x.r.hd, .slice A4 x.r.args.length c4])
    (hDp : ∀ k, Dp k → ¬ M k) (hDx : ∀ k, Dx k → ¬ M k) (hsz : σ.length + p.l.nodes + p.r.nodes ≤ 1099511627776) (hfl : p.l.AllH fits) (hfr : p.r.AllH fits) :
    Calls Tryd.prog 38 #[.iface 52 (.pointer (some ⟨bm, 0, none⟩)), .agg #[.bool p.neg, .int .i64 p.l.hd, .slice A1 p.l.args.length c1, .int .i64 p.r.hd, .slice A2 p.r.args.length c2],
      .agg #[.bool x.neg, .int .i64 x.l.hd, .slice A3 x.l.args.length c3, .int .i64 x.r.hd, .slice A4 x.r.args.length c4], .bool false] w (TermPost w M D bm σ (litF p x σ)) := by
  obtain ⟨np, pl, pr⟩ := p
  obtain ⟨nx, xl, xr⟩ := x
  simp only at *
  have hle : ∀ {D : Nat → Prop} {t : Tm} {A : Option Addr} {c : Nat}, Tm.K D w t [.int .i64 t.hd, .slice A t.args.length c] → t.args.length ≤ 9223372036854775807 := by
    intro D t A c hK
    cases t with
    | mk f l =>
      obtain ⟨_, _, e, hS⟩ := hK.open_
      exact Nat.le_trans hS.le hS.mx
  have hle1 := hle hpl
  have hle2 := hle hpr
  have hle3 := hle hxl
  have hle4 := hle hxr
  have HB2 := Lib.hid (fun o1 o2 => ((Below.refl w.heap.size w).alloc (Nat.le_refl _) o1).alloc (by simp) o2)
  have HM := Lib.hid h
  have HD := Lib.hid (And.intro hDp hDx)
  have HPL := Lib.hid hpl
  have HPR := Lib.hid hpr
  have HXL := Lib.hid hxl
  have HXR := Lib.hid hxr
  clear h hDp hDx hpl hpr hxl hxr hle
  by_cases hn : np = nx
  · subst hn
    have ha := Lib.hid (fun (W : World) hC => atom_any ⟨np, pl, pr⟩ W w.heap.size 0 A1 A2 c1 c2 hle1 hle2 hC)
    have hb := Lib.hid (fun (W : World) hC => atom_any ⟨np, xl, xr⟩ W (w.heap.size + 1) 0 A3 A4 c3 c4 hle3 hle4 hC)
    have hlf : litF ⟨np, pl, pr⟩ ⟨np, xl, xr⟩ σ = if (Lt.mk np pl pr).atom = (Lt.mk np xl xr).atom then (termF pl xl σ).bind (termF pr xr) else none := by simp [litF]
    have Hlf := Lib.hid hlf
    clear hlf
    generalize (Lt.mk np pl pr).atom = ap at ha Hlf
    generalize (Lt.mk np xl xr).atom = ax at hb Hlf
    by_cases hax : ap = ax
    · subst hax
      have mm := method_Mark
      have mt := method_Term
      have mk := method_Back
      have ht1 := Lib.hid (fun (W : World) (hb : Below w.heap.size w W) => term_any W M D Dp Dx bm σ (HM.out.below hb) pl xl A1 A3 c1 c3 (Rd.below (d := Tm.rd) HPL.out hb) (Rd.below (d := Tm.rd) HXL.out hb) HD.out.1 (by omega) hfl)
      have HMlt := Lib.hid HM.out.lt
      cases hr1 : termF pl xl σ with
      | none =>
        rw [hr1] at ht1
        have Hr1 := Lib.hid hr1
        clear hr1
        go_enter Tryd.func38, Tryd.ntmps38
        go_wp2_with fail
        refine (ha.out _ (CellsAt.blk (cs := #[_, _, _, _, _]) (blk_alloc (blk_alloc_new w _) _))).mono ?_
        rintro e w1 ⟨rfl, rfl⟩
        go_wp2_with fail
        refine (hb.out _ (CellsAt.blk (cs := #[_, _, _, _, _]) (blk_alloc_at (w.alloc _) _ _ (by simp)))).mono ?_
        rintro e w1 ⟨rfl, rfl⟩
        go_wp2_with fail
        refine (mark_any _ M D bm σ (HM.out.below (HB2.out _ _))).mono ?_
        rintro e w1 ⟨rfl, rfl⟩
        go_wp2_with fail
        refine (ht1.out _ (HB2.out _ _)).mono ?_
        rintro e w3 ⟨rfl, M1, D1, hL⟩
        have HL := Lib.hid hL
        clear hL
        go_wp2_with fail
        refine (back_any w3 M1 D1 bm σ (List.length σ) (Nat.le_refl _) HL.out.st).mono ?_
        rintro e w4 ⟨rfl, hst, hc, hs⟩
        have HS := Lib.hid (And.intro hst (And.intro hc hs))
        clear hst hc hs
        go_wp2_with fail
        go_ret
        have hr : litF ⟨np, pl, pr⟩ ⟨np, xl, xr⟩ σ = none := by rw [Hlf.out]; simp [Hr1.out]
        rw [hr]
        exact ⟨rfl, M1, D1, (HL.out.of (HB2.out _ _)).on (by have := HS.out.1; rwa [List.take_length] at this) HS.out.2.1⟩
      | some σ1 =>
        rw [hr1] at ht1
        have Hr1 := Lib.hid hr1
        obtain ⟨ext, hext, hextl⟩ := termF_pre hr1
        have Hext := Lib.hid hext
        have hlen1 : σ1.length ≤ σ.length + pl.nodes := by rw [hext]; simp; omega
        clear hr1 hext
        have ht2 := Lib.hid (fun (W w3 : World) (M1 D1 : Nat → Prop) (hb : Below w.heap.size w W) (hl : Left W M D bm σ1 w3 M1 D1) => term_any w3 M1 D1 (fun k => Dp k ∧ k < w.heap.size) (fun k => Dx k ∧ k < w.heap.size) bm σ1 hl.st pr xr A2 A4 c2 c4
          (Rd.over (d := Tm.rd) HPR.out hb hl HD.out.1) (Rd.over (d := Tm.rd) HXR.out hb hl HD.out.2) (fun k hk hM1 => by rcases hl.m k hM1 with h' | h'; exact HD.out.1 k hk.1 h'; have := hb.size; have := hk.2; omega) (by omega) hfr)
        cases hr2 : termF pr xr σ1 with
        | none =>
          rw [hr2] at ht2
          have Hr2 := Lib.hid hr2
          clear hr2
          go_enter Tryd.func38, Tryd.ntmps38
          go_wp2_with fail
          refine (ha.out _ (CellsAt.blk (cs := #[_, _, _, _, _]) (blk_alloc (blk_alloc_new w _) _))).mono ?_
          rintro e w1 ⟨rfl, rfl⟩
          go_wp2_with fail
          refine (hb.out _ (CellsAt.blk (cs := #[_, _, _, _, _]) (blk_alloc_at (w.alloc _) _ _ (by simp)))).mono ?_
          rintro e w1 ⟨rfl, rfl⟩
          go_wp2_with fail
          refine (mark_any _ M D bm σ (HM.out.below (HB2.out _ _))).mono ?_
          rintro e w1 ⟨rfl, rfl⟩
          go_wp2_with fail
          refine (ht1.out _ (HB2.out _ _)).mono ?_
          rintro e w3 ⟨rfl, M1, D1, hL⟩
          have HL := Lib.hid hL
          clear hL
          have q1 : w3.cell? ⟨w.heap.size, 3, none⟩ = some (.int .i64 pr.hd) := (HL.out.chg.cell (by simp; omega) (fun h => absurd (HMlt.out _ h) (by simp))).trans (by rw [blk_cell (blk_alloc (blk_alloc_new w _) _)]; rfl)
          have q2 : w3.cell? ⟨w.heap.size, 4, none⟩ = some (.slice A2 pr.args.length c2) := (HL.out.chg.cell (by simp; omega) (fun h => absurd (HMlt.out _ h) (by simp))).trans (by rw [blk_cell (blk_alloc (blk_alloc_new w _) _)]; rfl)
          have q3 : w3.cell? ⟨w.heap.size + 1, 3, none⟩ = some (.int .i64 xr.hd) := (HL.out.chg.cell (by simp) (fun h => absurd (HMlt.out _ h) (by simp))).trans (by rw [blk_cell (blk_alloc_at (w.alloc _) _ _ (by simp))]; rfl)
          have q4 : w3.cell? ⟨w.heap.size + 1, 4, none⟩ = some (.slice A4 xr.args.length c4) := (HL.out.chg.cell (by simp) (fun h => absurd (HMlt.out _ h) (by simp))).trans (by rw [blk_cell (blk_alloc_at (w.alloc _) _ _ (by simp))]; rfl)
          go_wp2_with fail
          refine (ht2.out _ w3 M1 D1 (HB2.out _ _) HL.out).mono ?_
          rintro e w4 ⟨rfl, M2, D2, hL2⟩
          have HL2 := Lib.hid (HL.out.trans hL2)
          clear hL2
          go_wp2_with fail
          refine (back_any w4 M2 D2 bm σ1 (List.length σ) (by have := Hext.out; rw [this]; simp) HL2.out.st).mono ?_
          rintro e w5 ⟨rfl, hst, hc, hs⟩
          have HS := Lib.hid (And.intro hst (And.intro hc hs))
          clear hst hc hs
          go_wp2_with fail
          go_ret
          have hr : litF ⟨np, pl, pr⟩ ⟨np, xl, xr⟩ σ = none := by rw [Hlf.out]; simp [Hr1.out, Hr2.out]
          rw [hr]
          exact ⟨rfl, M2, D2, (HL2.out.of (HB2.out _ _)).on (by have := HS.out.1; rwa [Hext.out, List.take_left] at this) HS.out.2.1⟩
        | some σ2 =>
          rw [hr2] at ht2
          have Hr2 := Lib.hid hr2
          clear hr2
          go_enter Tryd.func38, Tryd.ntmps38
          go_wp2_with fail
          refine (ha.out _ (CellsAt.blk (cs := #[_, _, _, _, _]) (blk_alloc (blk_alloc_new w _) _))).mono ?_
          rintro e w1 ⟨rfl, rfl⟩
          go_wp2_with fail
          refine (hb.out _ (CellsAt.blk (cs := #[_, _, _, _, _]) (blk_alloc_at (w.alloc _) _ _ (by simp)))).mono ?_
          rintro e w1 ⟨rfl, rfl⟩
          go_wp2_with fail
          refine (mark_any _ M D bm σ (HM.out.below (HB2.out _ _))).mono ?_
          rintro e w1 ⟨rfl, rfl⟩
          go_wp2_with fail
          refine (ht1.out _ (HB2.out _ _)).mono ?_
          rintro e w3 ⟨rfl, M1, D1, hL⟩
          have HL := Lib.hid hL
          clear hL
          have q1 : w3.cell? ⟨w.heap.size, 3, none⟩ = some (.int .i64 pr.hd) := (HL.out.chg.cell (by simp; omega) (fun h => absurd (HMlt.out _ h) (by simp))).trans (by rw [blk_cell (blk_alloc (blk_alloc_new w _) _)]; rfl)
          have q2 : w3.cell? ⟨w.heap.size, 4, none⟩ = some (.slice A2 pr.args.length c2) := (HL.out.chg.cell (by simp; omega) (fun h => absurd (HMlt.out _ h) (by simp))).trans (by rw [blk_cell (blk_alloc (blk_alloc_new w _) _)]; rfl)
          have q3 : w3.cell? ⟨w.heap.size + 1, 3, none⟩ = some (.int .i64 xr.hd) := (HL.out.chg.cell (by simp) (fun h => absurd (HMlt.out _ h) (by simp))).trans (by rw [blk_cell (blk_alloc_at (w.alloc _) _ _ (by simp))]; rfl)
          have q4 : w3.cell? ⟨w.heap.size + 1, 4, none⟩ = some (.slice A4 xr.args.length c4) := (HL.out.chg.cell (by simp) (fun h => absurd (HMlt.out _ h) (by simp))).trans (by rw [blk_cell (blk_alloc_at (w.alloc _) _ _ (by simp))]; rfl)
          go_wp2_with fail
          refine (ht2.out _ w3 M1 D1 (HB2.out _ _) HL.out).mono ?_
          rintro e w4 ⟨rfl, M2, D2, hL2⟩
          have HL2 := Lib.hid (HL.out.trans hL2)
          clear hL2
          go_wp2_with fail
          go_ret
          have hr : litF ⟨np, pl, pr⟩ ⟨np, xl, xr⟩ σ = some σ2 := by rw [Hlf.out]; simp [Hr1.out, Hr2.out]
          rw [hr]
          exact ⟨rfl, M2, D2, HL2.out.of (HB2.out _ _)⟩
    · have hax' : (ap == ax) = false := by simpa using hax
      have Hax := Lib.hid hax
      clear hax
      go_enter Tryd.func38, Tryd.ntmps38
      go_wp2_with fail
      refine (ha.out _ (CellsAt.blk (cs := #[_, _, _, _, _]) (blk_alloc (blk_alloc_new w _) _))).mono ?_
      rintro e w1 ⟨rfl, rfl⟩
      go_wp2_with fail
      refine (hb.out _ (CellsAt.blk (cs := #[_, _, _, _, _]) (blk_alloc_at (w.alloc _) _ _ (by simp)))).mono ?_
      rintro e w1 ⟨rfl, rfl⟩
      go_wp2_with fail
      go_ret
      have hr : litF ⟨np, pl, pr⟩ ⟨np, xl, xr⟩ σ = none := by rw [Hlf.out]; simp [Hax.out]
      rw [hr]
      exact ⟨rfl, M, D, Left.self HM.out (HB2.out _ _)⟩
  · have hn' : (np == nx) = false := by simpa using hn
    have Hn := Lib.hid hn
    clear hn
    go_enter Tryd.func38, Tryd.ntmps38
    go_wp2_with fail
    go_ret
    have hr : litF ⟨np, pl, pr⟩ ⟨nx, xl, xr⟩ σ = none := by unfold litF; simp [Hn.out]
    rw [hr]
    exact ⟨rfl, M, D, Left.self HM.out (HB2.out _ _)⟩
set_option maxHeartbeats 1000000 in
theorem Lit_any (w : World) (M D Dp Dx : Nat → Prop) (bm : Nat) (σ : Sg) (h : MSt w M D bm σ) (p x : Lt) (A1 A2 A3 A4 : Option Addr) (c1 c2 c3 c4 : Nat)
    (hpl : Tm.K Dp w p.l [.int .i64 p.l.hd, .slice A1 p.l.args.length c1]) (hpr : Tm.K Dp w p.r [.int .i64 p.r.hd, .slice A2 p.r.args.length c2]) (hxl : Tm.K Dx w x.l [.int .i64 x.l.hd, .slice A3 x.l.args.length c3]) (hxr : Tm.K Dx w x.r [.int .i64 x.r.hd, .slice A4 x.r.args.length c4])
    (hDp : ∀ k, Dp k → ¬ M k) (hDx : ∀ k, Dx k → ¬ M k) (hsz : σ.length + p.l.nodes + p.r.nodes ≤ 1099511627776) (hfl : p.l.AllH fits) (hfr : p.r.AllH fits) :
    Calls Tryd.prog 22 #[.pointer (some ⟨bm, 0, none⟩), .agg #[.bool p.neg, .int .i64 p.l.hd, .slice A1 p.l.args.length c1, .int .i64 p.r.hd, .slice A2 p.r.args.length c2],
      .agg #[.bool x.neg, .int .i64 x.l.hd, .slice A3 x.l.args.length c3, .int .i64 x.r.hd, .slice A4 x.r.args.length c4], .bool false] w (TermPost w M D bm σ (litF p x σ)) := by
  have hl := Lib.hid (fun (W : World) (hb : Below w.heap.size w W) => And.intro hb (lit_any W M D Dp Dx bm σ (h.below hb) p x A1 A2 A3 A4 c1 c2 c3 c4 (Rd.below (d := Tm.rd) hpl hb) (Rd.below (d := Tm.rd) hpr hb) (Rd.below (d := Tm.rd) hxl hb) (Rd.below (d := Tm.rd) hxr hb) hDp hDx hsz hfl hfr))
  have HB2 := Lib.hid (fun o1 o2 => ((Below.refl w.heap.size w).alloc (Nat.le_refl _) o1).alloc (by simp) o2)
  clear h hpl hpr hxl hxr hDp hDx hfl hfr
  go_enter Tryd.func22, Tryd.ntmps22
  go_wp2_with fail
  refine (hl.out _ (HB2.out _ _)).2.mono ?_
  rintro e w1 ⟨rfl, M1, D1, hL⟩
  have HL := Lib.hid hL
  clear hL
  go_wp2_with fail
  go_ret
  exact ⟨rfl, M1, D1, HL.out.of (HB2.out _ _)⟩
end Go.Proofs.YtkgkdfhipgjobaaDoor
