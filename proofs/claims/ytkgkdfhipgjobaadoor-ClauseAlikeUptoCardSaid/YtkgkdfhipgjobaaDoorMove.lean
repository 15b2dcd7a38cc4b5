/- subst.renamed by a function that only computes; subst.Move. -/
import Derived.Test.YtkgkdfhipgjobaaDoorCopy
import Derived.Deep.RegionLaw
namespace Go.Proofs.YtkgkdfhipgjobaaDoor
open Go.RowKit
set_option linter.unusedVariables false
set_option linter.unusedSimpArgs false

mutual
def Tm.AllH (p : Int → Prop) : Tm → Prop
  | .mk f l => p f ∧ Tm.AllL p l
def Tm.AllL (p : Int → Prop) : List Tm → Prop
  | [] => True
  | t :: r => Tm.AllH p t ∧ Tm.AllL p r
end
theorem Tm.AllH_mk (p : Int → Prop) (f : Int) (l : List Tm) : (Tm.mk f l).AllH p ↔ p f ∧ Tm.AllL p l := by rw [Tm.AllH]
theorem Tm.AllL_iff (p : Int → Prop) (l : List Tm) : Tm.AllL p l ↔ ∀ t ∈ l, t.AllH p := by
  induction l with
  | nil => simp [Tm.AllL]
  | cons t r ih => simp [Tm.AllL, ih]
def fits (f : Int) : Prop := -9223372036854775808 ≤ f ∧ f ≤ 9223372036854775807
mutual
def Tm.ren (tf : Int → Int) : Tm → Tm
  | .mk f l => .mk (if f < 0 then -1 - tf (-1 - f) else f) (Tm.renL tf l)
def Tm.renL (tf : Int → Int) : List Tm → List Tm
  | [] => []
  | t :: r => Tm.ren tf t :: Tm.renL tf r
end
theorem Tm.renL_map (tf : Int → Int) (l : List Tm) : Tm.renL tf l = l.map (Tm.ren tf) := by
  induction l with
  | nil => rfl
  | cons t r ih => rw [Tm.renL, ih]; rfl
theorem Tm.ren_mk (tf : Int → Int) (f : Int) (l : List Tm) : (Tm.mk f l).ren tf = .mk (if f < 0 then -1 - tf (-1 - f) else f) (l.map (Tm.ren tf)) := by rw [Tm.ren, Tm.renL_map]

/-- A function value that only computes. -/
def ToAt (g : Nat) (lb : Array Value) (tf : Int → Int) (w : World) : Prop := Ent Tryd.prog g ∧ ∀ (v : Int) (W : World), Below w.heap.size w W → 0 ≤ v → v ≤ 9223372036854775807 →
  Calls Tryd.prog g (#[.int .i64 v] ++ lb) W fun e W' => e = .returned (.int .i64 (tf v)) ∧ W = W'

set_option maxRecDepth 100000 in
set_option maxHeartbeats 1000000 in
theorem renamed_any (g : Nat) (lb : Array Value) (tf : Int → Int) (htf : ∀ v, 0 ≤ v → v ≤ 9223372036854775807 → 0 ≤ tf v ∧ tf v ≤ 9223372036854775807) :
    ∀ (t : Tm) (D : Nat → Prop) (w : World) (A : Option Addr) (c : Nat), ToAt g lb tf w → t.AllH fits → Tm.K D w t [.int .i64 t.hd, .slice A t.args.length c] →
    Calls Tryd.prog 16 #[.agg #[.int .i64 t.hd, .slice A t.args.length c], .func (.func g) #[] lb] w (Copied w.heap.size (t.ren tf) w) := by
  intro t
  induction t using Tm.ind with
  | h f l ih =>
  intro D w A c hT hfit hK
  obtain ⟨A', cap', e, hS⟩ := hK.open_
  simp only [Tm.hd, Tm.args, List.cons.injEq, Value.slice.injEq, and_true, true_and] at e
  obtain ⟨rfl, rfl⟩ := e
  rw [Tm.AllH_mk, Tm.AllL_iff] at hfit
  obtain ⟨⟨hf0, hf1⟩, hfl⟩ := hfit
  have HI := Lib.hid ih
  have HS := Lib.hid hS
  have HT := Lib.hid hT
  have HF := Lib.hid hfl
  have hle : l.length ≤ 9223372036854775807 := Nat.le_trans hS.le hS.mx
  have hcap : c ≤ 9223372036854775807 := hS.mx
  have hle2 := hS.le
  have hby : l.length * 32 ≤ 140737488355328 := hS.by_
  have hent : ∀ (args : Array Value) (w : World), (callFunc g args).run Tryd.prog w = .ok (.enter g args) w := hT.1
  clear ih hS hK hT hfl
  simp only [Tm.hd, Tm.args]
  obtain ⟨f', hf'⟩ : ∃ f' : Int, f' = (if f < 0 then -1 - tf (-1 - f) else f) := ⟨_, rfl⟩
  have hv : Hid ((Tm.mk f l).ren tf = .mk f' (l.map (Tm.ren tf))) := by show _ = _; rw [Tm.ren_mk, hf']
  have HB : ∀ o : Obj, Below w.heap.size w (w.alloc o) := fun o => (Below.refl _ w).alloc (Nat.le_refl _) o
  have HB := Lib.hid HB
  have h18 : ((1 : Int)) = 1 := rfl
  clear h18
  by_cases hneg : f < 0
  · have hd : decide (f < 0) = true := by simpa using hneg
    rw [if_pos hneg] at hf'
    obtain ⟨ht0, ht1⟩ := htf (-1 - f) (by omega) (by omega)
    have HT' := Lib.hid (fun W hb => HT.out.2 (-1 - f) W hb (by omega) (by omega))
    generalize tf (-1 - f) = y at hf' ht0 ht1 HT'
    have Hf := Lib.hid hf'
    clear hf' htf
    go_enter Tryd.func16, Tryd.ntmps16
    go_wp2_with fail
    refine (HT'.out _ (((HB.out _).alloc (by simp) _).alloc (by simp; omega) _)).mono ?_
    rintro e w1 ⟨rfl, rfl⟩
    go_wp2_with fail
    go_loopw [24] (fun i wr => ∃ (k : Nat) (Av : Option Addr) (cv : Nat), k ≤ l.length ∧ i = .int .i64 k ∧ Hid (Below w.heap.size w wr) ∧ Hid (w.heap.size + 3 ≤ wr.heap.size) ∧
        Hid (wr.heap[w.heap.size + 1]? = some (.cells #[.int .i64 0, .slice none 0 0] 30 (0, 0))) ∧
        Hid (wr.heap[w.heap.size + 1 + 1]? = some (.cells #[.int .i64 (-1 - y), .slice Av k cv] 30 (0, 0))) ∧
        Hid (Tm.rd.Own (fun b => w.heap.size + 3 ≤ b) 30 wr (w.heap.size + 3) (.slice Av k cv) ((l.take k).map (Tm.ren tf))))
      (fun i _ => l.length - (intOf i).toNat)
    case atStart =>
      refine ⟨0, none, 0, Nat.zero_le _, rfl, ((HB.out _).alloc (by simp) _).alloc (by simp; omega) _, by show _ ≤ _; simp, ?_, ?_, Rd.Own.nil _ _ _ _ _⟩
      · exact blk_alloc (by have := blk_alloc_new (w.alloc (.cells #[.int .i64 f, .slice A l.length c] 30)) (.cells #[.int .i64 0, .slice none 0 0] 30); simpa using this) _
      · have := blk_alloc_new ((w.alloc (.cells #[.int .i64 f, .slice A l.length c] 30)).alloc (.cells #[.int .i64 0, .slice none 0 0] 30)) (.cells #[.int .i64 (-1 - y), .slice none 0 0] 30); show _ = some _; simpa using this
    case round =>
      obtain ⟨k, Av, cv, hk, rfl, hB, hsz, hR, hO, hP⟩ := hrel
      by_cases hlt : k < l.length
      · obtain ⟨b, o, A1, c1, rfl, hDb, hK, h0, h1⟩ := Tm.get_ (HS.out.below hB.out) k hlt
        have l1 := World.block_lt_of_cell? wr _ h0
        have hsz' : w.heap.size + 3 ≤ wr.heap.size := hsz.out
        simp only at l1
        have g0 : wr.cell? ⟨w.heap.size + 1 + 1, 0, none⟩ = some (.int .i64 (-1 - y)) := by rw [blk_cell hO.out]; rfl
        have g1 : wr.cell? ⟨w.heap.size + 1 + 1, 1, none⟩ = some (.slice Av k cv) := by rw [blk_cell hO.out]; rfl
        have g2 := blk_frozen hO.out 1
        have HK := Lib.hid (fun W hb => Rd.below (d := Tm.rd) (w' := W) hK hb)
        have g1' := cell_new g1 (.cells #[.int .i64 l[k].hd, .slice A1 l[k].args.length c1] 30)
        clear hK
        have HFk := Lib.hid (HF.out _ (List.getElem_mem hlt))
        have HTw := Lib.hid (fun (W : World) (hb : Below wr.heap.size wr W) => (⟨HT.out.1, fun v W' hb' => HT.out.2 v W' (hB.out.trans ((hb.mono hB.out.size).trans (hb'.mono (Nat.le_trans hB.out.size hb.size))))⟩ : ToAt g lb tf W))
        go_wp2_with fail
        go_region_law (first | (refine Rd.step_own Tm.rd (fun b => w.heap.size + 3 ≤ b) 28 30 (.agg #[.int .i64 0, .slice none 0 0]) (w.heap.size + 3) rfl _ _ rfl Tryd.underlying28 infoTerm rfl (by decide) _ ((l.take k).map (Tm.ren tf)) k (by simp; omega) (l[k].ren tf) _ _ rfl rfl (blk_alloc_new _ _) (HP1.out _) (HY1.out _) (by show (k + 1) * 32 ≤ _; omega) (by simp; omega) ?_; intro g3 cap3 w2 hown3 hgrow3 hat3 hlt3; have s0 := (hgrow3.cell_far ⟨w.heap.size + 1 + 1, 1, none⟩ (by simp; omega) (fun e => by have := (hP.out.base _ e.symm).1; simp at this; omega)).trans (cell_new r0 _); have s1 := (hgrow3.frozen_far ⟨w.heap.size + 1 + 1, 1, none⟩ (by simp; omega) (fun e => by have := (hP.out.base _ e.symm).1; simp at this; omega)).trans ((World.frozen?_alloc_old _ _ ⟨w.heap.size + 1 + 1, 1, none⟩ (by simp; omega)).trans r1)) | (go_simp; go_at_call 16; refine (HI.out _ (List.getElem_mem hlt) D _ _ _ (HTw.out _ (((Below.refl _ wr).alloc (Nat.le_refl _) _).drew)) HFk.out (HK.out _ (((Below.refl _ wr).alloc (Nat.le_refl _) _).drew))).mono ?_; rintro e w1 ⟨A2, c2, rfl, hK2, hb2⟩; have hb3 : Below wr.heap.size wr w1 := ((Below.refl _ wr).alloc (Nat.le_refl _) _).drew.trans (hb2.mono (by simp)); have r0 := (hb3.cell (p := ⟨w.heap.size + 1 + 1, 1, none⟩) (by simp; omega)).trans g1; have r1 := (hb3.frozen (p := ⟨w.heap.size + 1 + 1, 1, none⟩) (by simp; omega)).trans g2; have r2 := fun o => cell_new r0 o; have hs1 := hb3.size; have HP1 := Lib.hid (fun o => (hP.out.below hb3).below ((Below.refl _ w1).alloc (Nat.le_refl _) o)); have HY1 := Lib.hid (fun o => Tm.rd.mono (D' := fun b => w.heap.size + 3 ≤ b ∧ (Value.slice Av k cv).ownBlock ≠ some b) (fun b hb => ⟨by simp at hb; omega, fun e => by have := (hP.out.base b e).2; simp at hb; omega⟩) (Rd.below (d := Tm.rd) hK2 ((Below.refl _ w1).alloc (Nat.le_refl _) o))); have HB1 := Lib.hid hb3; clear hb2 hb3 hK2))
        all_goals
          go_wp2_with fail
          go_roundw
          case rel =>
            have hsw := hgrow3.size
            simp only [World.size_alloc] at hsw
            have hbk : ∀ q, q < w.heap.size + 3 → some q ≠ (Value.slice Av k cv).ownBlock := fun q hq e => by have := (hP.out.base _ e.symm).1; omega
            have hO2 : w2.heap[w.heap.size + 1 + 1]? = some (.cells #[.int .i64 (-1 - y), .slice Av k cv] 30 (0, 0)) := (hgrow3.block _ (by simp; omega) (hbk _ (by omega))).trans (blk_alloc (blk_below HB1.out (by omega) hO.out) _)
            refine ⟨k + 1, some ⟨g3, 0, none⟩, cap3, by omega, by go_num, below_set ((((hB.out.trans (HB1.out.mono (by omega))).alloc (by omega) _).grown hgrow3 (by simp; omega) (fun q e => by have := (hP.out.base _ e).1; omega))) (by omega) _, by show _ ≤ _; rw [size_set]; omega, ?_, ?_, ?_⟩
            · exact (blk_set_ne (by omega)).trans ((hgrow3.block _ (by simp; omega) (hbk _ (by omega))).trans (blk_alloc (blk_below HB1.out (by omega) hR.out) _))
            · exact blk_set hO2 1 _
            · rw [List.take_succ_eq_append_getElem hlt, List.map_append]
              exact hown3.stay (fun q hq _ => blk_set_ne (by rcases hq with hq | hq; omega; have := (hown3.base _ hq).1; omega)) (fun _ h => h)
          case measure => simp [intOf]; omega
      · obtain rfl : k = l.length := by omega
        have g0 : wr.cell? ⟨w.heap.size + 1 + 1, 0, none⟩ = some (.int .i64 (-1 - y)) := by rw [blk_cell hO.out]; rfl
        have g1 : wr.cell? ⟨w.heap.size + 1 + 1, 1, none⟩ = some (.slice Av l.length cv) := by rw [blk_cell hO.out]; rfl
        have g2 : wr.cell? ⟨w.heap.size + 1, 0, none⟩ = some (.int .i64 0) := by rw [blk_cell hR.out]; rfl
        have g3 : wr.cell? ⟨w.heap.size + 1, 1, none⟩ = some (.slice none 0 0) := by rw [blk_cell hR.out]; rfl
        have g4 := blk_frozen hR.out 0
        have g5 := blk_frozen hR.out 1
        have HE : Hid (Copied w.heap.size ((Tm.mk f l).ren tf) w (.returned (.agg #[.int .i64 (-1 - y), .slice Av l.length cv])) ((wr.setCell ⟨w.heap.size + 1, 0, none⟩ (.int .i64 (-1 - y))).setCell ⟨w.heap.size + 1, 1, none⟩ (.slice Av l.length cv))) := by
          show Copied _ _ _ _ _
          rw [hv.out]
          have hP' := hP.out
          rw [List.take_length] at hP'
          obtain ⟨A3, c3, e3, hS3⟩ := hP'.sl (by simpa [Tm.rd] using hby)
          simp only [Value.slice.injEq] at e3
          obtain ⟨rfl, e4, rfl⟩ := e3
          refine ⟨Av, cv, by simp [Tm.hd, Tm.args, ← Hf.out], ?_, below_set (below_set hB.out (by omega) _) (by omega) _⟩
          refine Tm.K.mk_ f' (Rd.Sl.stay hS3 (fun q hq _ => ?_) (fun q hq => ?_))
          · have : w.heap.size + 3 ≤ q := by rcases hq with hq | hq; exact hq; exact (hP'.base _ hq).1
            exact (blk_set_ne (by omega)).trans (blk_set_ne (by omega))
          · rcases hq with hq | hq
            · omega
            · have := (hP'.base _ hq).1; omega
        go_wp2_with fail
        exact bodyPost_ret (v := .agg #[.int .i64 (-1 - y), .slice Av l.length cv]) (by simp [results, Tryd.results16, go_sem, g2, g3]) rfl HE.out
  · have hd : decide (f < 0) = false := by simpa using hneg
    rw [if_neg hneg] at hf'
    have Hf := Lib.hid hf'
    clear hf' htf hneg
    go_enter Tryd.func16, Tryd.ntmps16
    go_wp2_with fail
    go_loopw [24] (fun i wr => ∃ (k : Nat) (Av : Option Addr) (cv : Nat), k ≤ l.length ∧ i = .int .i64 k ∧ Hid (Below w.heap.size w wr) ∧ Hid (w.heap.size + 3 ≤ wr.heap.size) ∧
        Hid (wr.heap[w.heap.size + 1]? = some (.cells #[.int .i64 0, .slice none 0 0] 30 (0, 0))) ∧
        Hid (wr.heap[w.heap.size + 1 + 1]? = some (.cells #[.int .i64 f, .slice Av k cv] 30 (0, 0))) ∧
        Hid (Tm.rd.Own (fun b => w.heap.size + 3 ≤ b) 30 wr (w.heap.size + 3) (.slice Av k cv) ((l.take k).map (Tm.ren tf))))
      (fun i _ => l.length - (intOf i).toNat)
    case atStart =>
      refine ⟨0, none, 0, Nat.zero_le _, rfl, ((HB.out _).alloc (by simp) _).alloc (by simp; omega) _, by show _ ≤ _; simp, ?_, ?_, Rd.Own.nil _ _ _ _ _⟩
      · exact blk_alloc (by have := blk_alloc_new (w.alloc (.cells #[.int .i64 f, .slice A l.length c] 30)) (.cells #[.int .i64 0, .slice none 0 0] 30); simpa using this) _
      · have := blk_alloc_new ((w.alloc (.cells #[.int .i64 f, .slice A l.length c] 30)).alloc (.cells #[.int .i64 0, .slice none 0 0] 30)) (.cells #[.int .i64 f, .slice none 0 0] 30); show _ = some _; simpa using this
    case round =>
      obtain ⟨k, Av, cv, hk, rfl, hB, hsz, hR, hO, hP⟩ := hrel
      by_cases hlt : k < l.length
      · obtain ⟨b, o, A1, c1, rfl, hDb, hK, h0, h1⟩ := Tm.get_ (HS.out.below hB.out) k hlt
        have l1 := World.block_lt_of_cell? wr _ h0
        have hsz' : w.heap.size + 3 ≤ wr.heap.size := hsz.out
        simp only at l1
        have g0 : wr.cell? ⟨w.heap.size + 1 + 1, 0, none⟩ = some (.int .i64 f) := by rw [blk_cell hO.out]; rfl
        have g1 : wr.cell? ⟨w.heap.size + 1 + 1, 1, none⟩ = some (.slice Av k cv) := by rw [blk_cell hO.out]; rfl
        have g2 := blk_frozen hO.out 1
        have HK := Lib.hid (fun W hb => Rd.below (d := Tm.rd) (w' := W) hK hb)
        have g1' := cell_new g1 (.cells #[.int .i64 l[k].hd, .slice A1 l[k].args.length c1] 30)
        clear hK
        have HFk := Lib.hid (HF.out _ (List.getElem_mem hlt))
        have HTw := Lib.hid (fun (W : World) (hb : Below wr.heap.size wr W) => (⟨HT.out.1, fun v W' hb' => HT.out.2 v W' (hB.out.trans ((hb.mono hB.out.size).trans (hb'.mono (Nat.le_trans hB.out.size hb.size))))⟩ : ToAt g lb tf W))
        go_wp2_with fail
        go_region_law (first | (refine Rd.step_own Tm.rd (fun b => w.heap.size + 3 ≤ b) 28 30 (.agg #[.int .i64 0, .slice none 0 0]) (w.heap.size + 3) rfl _ _ rfl Tryd.underlying28 infoTerm rfl (by decide) _ ((l.take k).map (Tm.ren tf)) k (by simp; omega) (l[k].ren tf) _ _ rfl rfl (blk_alloc_new _ _) (HP1.out _) (HY1.out _) (by show (k + 1) * 32 ≤ _; omega) (by simp; omega) ?_; intro g3 cap3 w2 hown3 hgrow3 hat3 hlt3; have s0 := (hgrow3.cell_far ⟨w.heap.size + 1 + 1, 1, none⟩ (by simp; omega) (fun e => by have := (hP.out.base _ e.symm).1; simp at this; omega)).trans (cell_new r0 _); have s1 := (hgrow3.frozen_far ⟨w.heap.size + 1 + 1, 1, none⟩ (by simp; omega) (fun e => by have := (hP.out.base _ e.symm).1; simp at this; omega)).trans ((World.frozen?_alloc_old _ _ ⟨w.heap.size + 1 + 1, 1, none⟩ (by simp; omega)).trans r1)) | (go_simp; go_at_call 16; refine (HI.out _ (List.getElem_mem hlt) D _ _ _ (HTw.out _ (((Below.refl _ wr).alloc (Nat.le_refl _) _).drew)) HFk.out (HK.out _ (((Below.refl _ wr).alloc (Nat.le_refl _) _).drew))).mono ?_; rintro e w1 ⟨A2, c2, rfl, hK2, hb2⟩; have hb3 : Below wr.heap.size wr w1 := ((Below.refl _ wr).alloc (Nat.le_refl _) _).drew.trans (hb2.mono (by simp)); have r0 := (hb3.cell (p := ⟨w.heap.size + 1 + 1, 1, none⟩) (by simp; omega)).trans g1; have r1 := (hb3.frozen (p := ⟨w.heap.size + 1 + 1, 1, none⟩) (by simp; omega)).trans g2; have r2 := fun o => cell_new r0 o; have hs1 := hb3.size; have HP1 := Lib.hid (fun o => (hP.out.below hb3).below ((Below.refl _ w1).alloc (Nat.le_refl _) o)); have HY1 := Lib.hid (fun o => Tm.rd.mono (D' := fun b => w.heap.size + 3 ≤ b ∧ (Value.slice Av k cv).ownBlock ≠ some b) (fun b hb => ⟨by simp at hb; omega, fun e => by have := (hP.out.base b e).2; simp at hb; omega⟩) (Rd.below (d := Tm.rd) hK2 ((Below.refl _ w1).alloc (Nat.le_refl _) o))); have HB1 := Lib.hid hb3; clear hb2 hb3 hK2))
        all_goals
          go_wp2_with fail
          go_roundw
          case rel =>
            have hsw := hgrow3.size
            simp only [World.size_alloc] at hsw
            have hbk : ∀ q, q < w.heap.size + 3 → some q ≠ (Value.slice Av k cv).ownBlock := fun q hq e => by have := (hP.out.base _ e.symm).1; omega
            have hO2 : w2.heap[w.heap.size + 1 + 1]? = some (.cells #[.int .i64 f, .slice Av k cv] 30 (0, 0)) := (hgrow3.block _ (by simp; omega) (hbk _ (by omega))).trans (blk_alloc (blk_below HB1.out (by omega) hO.out) _)
            refine ⟨k + 1, some ⟨g3, 0, none⟩, cap3, by omega, by go_num, below_set ((((hB.out.trans (HB1.out.mono (by omega))).alloc (by omega) _).grown hgrow3 (by simp; omega) (fun q e => by have := (hP.out.base _ e).1; omega))) (by omega) _, by show _ ≤ _; rw [size_set]; omega, ?_, ?_, ?_⟩
            · exact (blk_set_ne (by omega)).trans ((hgrow3.block _ (by simp; omega) (hbk _ (by omega))).trans (blk_alloc (blk_below HB1.out (by omega) hR.out) _))
            · exact blk_set hO2 1 _
            · rw [List.take_succ_eq_append_getElem hlt, List.map_append]
              exact hown3.stay (fun q hq _ => blk_set_ne (by rcases hq with hq | hq; omega; have := (hown3.base _ hq).1; omega)) (fun _ h => h)
          case measure => simp [intOf]; omega
      · obtain rfl : k = l.length := by omega
        have g0 : wr.cell? ⟨w.heap.size + 1 + 1, 0, none⟩ = some (.int .i64 f) := by rw [blk_cell hO.out]; rfl
        have g1 : wr.cell? ⟨w.heap.size + 1 + 1, 1, none⟩ = some (.slice Av l.length cv) := by rw [blk_cell hO.out]; rfl
        have g2 : wr.cell? ⟨w.heap.size + 1, 0, none⟩ = some (.int .i64 0) := by rw [blk_cell hR.out]; rfl
        have g3 : wr.cell? ⟨w.heap.size + 1, 1, none⟩ = some (.slice none 0 0) := by rw [blk_cell hR.out]; rfl
        have g4 := blk_frozen hR.out 0
        have g5 := blk_frozen hR.out 1
        have HE : Hid (Copied w.heap.size ((Tm.mk f l).ren tf) w (.returned (.agg #[.int .i64 f, .slice Av l.length cv])) ((wr.setCell ⟨w.heap.size + 1, 0, none⟩ (.int .i64 f)).setCell ⟨w.heap.size + 1, 1, none⟩ (.slice Av l.length cv))) := by
          show Copied _ _ _ _ _
          rw [hv.out]
          have hP' := hP.out
          rw [List.take_length] at hP'
          obtain ⟨A3, c3, e3, hS3⟩ := hP'.sl (by simpa [Tm.rd] using hby)
          simp only [Value.slice.injEq] at e3
          obtain ⟨rfl, e4, rfl⟩ := e3
          refine ⟨Av, cv, by simp [Tm.hd, Tm.args, ← Hf.out], ?_, below_set (below_set hB.out (by omega) _) (by omega) _⟩
          refine Tm.K.mk_ f' (Rd.Sl.stay hS3 (fun q hq _ => ?_) (fun q hq => ?_))
          · have : w.heap.size + 3 ≤ q := by rcases hq with hq | hq; exact hq; exact (hP'.base _ hq).1
            exact (blk_set_ne (by omega)).trans (blk_set_ne (by omega))
          · rcases hq with hq | hq
            · omega
            · have := (hP'.base _ hq).1; omega
        go_wp2_with fail
        exact bodyPost_ret (v := .agg #[.int .i64 f, .slice Av l.length cv]) (by simp [results, Tryd.results16, go_sem, g2, g3]) rfl HE.out

/-- subst.Move's function of a variable's number, its shift from 0 to 1000 lying in block B. -/
def mv (by_ : Int) (v : Int) : Int := if 2147483647 - by_ < v then v else v + by_
set_option maxHeartbeats 1000000 in
theorem move1_any (B : Nat) (by_ : Int) (h0 : 0 ≤ by_) (h1 : by_ ≤ 1000) (w : World) (hB : w.cell? ⟨B, 0, none⟩ = some (.int .i64 by_)) : ToAt 17 #[.pointer (some ⟨B, 0, none⟩)] (mv by_) w := by
  refine ⟨ent_of Tryd.func17 (by kernel_rfl) rfl, fun v W hb hv0 hv1 => ?_⟩
  have hB' : W.cell? ⟨B, 0, none⟩ = some (.int .i64 by_) := (hb.cell (p := ⟨B, 0, none⟩) (World.block_lt_of_cell? w _ hB)).trans hB
  show Calls _ _ #[.int .i64 v, .pointer (some ⟨B, 0, none⟩)] _ _
  clear hB hb
  have hd1 : decide (0 ≤ by_) = true := by simpa using h0
  have hd2 : decide (2147483647 < by_) = false := by simp; omega
  have hd3 : decide (by_ < 0) = false := by simp; omega
  by_cases hv : 2147483647 - by_ < v
  · have hv' : Hid (mv by_ v = v) := by show _ = _; unfold mv; rw [if_pos hv]
    have hd : decide (2147483647 - by_ < v) = true := by simpa using hv
    clear hv
    go_enter Tryd.func17, Tryd.ntmps17
    go_wp2_with fail
    go_ret
    exact ⟨by rw [hv'.out]; rfl, rfl⟩
  · have hv' : Hid (mv by_ v = v + by_) := by show _ = _; unfold mv; rw [if_neg hv]
    have hd : decide (2147483647 - by_ < v) = false := by simpa using hv
    have hb : v ≤ 2147483647 - by_ := by omega
    clear hv
    go_enter Tryd.func17, Tryd.ntmps17
    go_wp2_with fail
    go_ret
    exact ⟨by rw [hv'.out]; rfl, rfl⟩

set_option maxHeartbeats 1000000 in
theorem move_any (by_ : Int) (h0 : 0 ≤ by_) (h1 : by_ ≤ 1000) (t : Tm) (D : Nat → Prop) (w : World) (A : Option Addr) (c : Nat) (hfit : t.AllH fits) (hK : Tm.K D w t [.int .i64 t.hd, .slice A t.args.length c]) :
    Calls Tryd.prog 7 #[.agg #[.int .i64 t.hd, .slice A t.args.length c], .int .i64 by_] w (Copied w.heap.size (t.ren (mv by_)) w) := by
  have HK := Lib.hid (fun W hb => Rd.below (d := Tm.rd) (w' := W) hK hb)
  have HF := Lib.hid hfit
  clear hK hfit
  have HB3 := Lib.hid (fun (o1 o2 o3 : Obj) => (((Below.refl w.heap.size w).alloc (Nat.le_refl _) o1).alloc (by simp) o2).alloc (by simp; omega) o3)
  have htf : ∀ v, 0 ≤ v → v ≤ 9223372036854775807 → 0 ≤ mv by_ v ∧ mv by_ v ≤ 9223372036854775807 := fun v h2 h3 => by unfold mv; split <;> omega
  have HC := Lib.hid (renamed_any 17 #[.pointer (some ⟨w.heap.size + 1, 0, none⟩)] (mv by_) htf t D)
  have HM := Lib.hid (fun W hB => move1_any (w.heap.size + 1) by_ h0 h1 W hB)
  clear htf
  go_enter Tryd.func7, Tryd.ntmps7
  go_wp2_with fail
  refine (HC.out _ _ _ (HM.out _ ?_) HF.out (HK.out _ (HB3.out _ _ _))).mono ?_
  · simp [go_sem]
  rintro e w1 ⟨A2, c2, rfl, hK2, hb2⟩
  have r0 : w1.cell? ⟨w.heap.size + 1 + 1, 0, none⟩ = some (.int .i64 0) := (hb2.cell (by simp)).trans (by simp [go_sem])
  have r1 : w1.cell? ⟨w.heap.size + 1 + 1, 1, none⟩ = some (.slice none 0 0) := (hb2.cell (by simp)).trans (by simp [go_sem])
  have f0 : w1.frozen? ⟨w.heap.size + 1 + 1, 0, none⟩ = false := (hb2.frozen (by simp)).trans (by simp [go_sem])
  have f1 : w1.frozen? ⟨w.heap.size + 1 + 1, 1, none⟩ = false := (hb2.frozen (by simp)).trans (by simp [go_sem])
  have HR : Hid (Copied w.heap.size (t.ren (mv by_)) w (.returned (.agg #[.int .i64 (t.ren (mv by_)).hd, .slice A2 (t.ren (mv by_)).args.length c2]))
      ((w1.setCell ⟨w.heap.size + 1 + 1, 0, none⟩ (.int .i64 (t.ren (mv by_)).hd)).setCell ⟨w.heap.size + 1 + 1, 1, none⟩ (.slice A2 (t.ren (mv by_)).args.length c2))) := by
    refine ⟨A2, c2, rfl, Rd.stay (d := Tm.rd) hK2 (fun q hq _ => ?_) (fun q hq => ?_), below_set (below_set ((HB3.out _ _ _).trans (hb2.mono (by simp; omega))) (by omega) _) (by omega) _⟩
    · simp at hq
      exact (blk_set_ne (by omega)).trans (blk_set_ne (by omega))
    · simp at hq
      omega
  clear hK2 hb2
  go_wp2_with fail
  exact bodyPost_ret (v := .agg #[.int .i64 (t.ren (mv by_)).hd, .slice A2 (t.ren (mv by_)).args.length c2]) (by simp [results, Tryd.results7, go_sem, r0, r1]) rfl HR.out
end Go.Proofs.YtkgkdfhipgjobaaDoor
