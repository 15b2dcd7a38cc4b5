/- sign.Check: what it answers. -/
import Derived.Test.YtkgkdfhipgjobaaDoorSign
import Derived.Deep.QuietTactic
import Derived.Outline
namespace Go.Proofs.YtkgkdfhipgjobaaDoor
open Go.RowKit
set_option linter.unusedVariables false
set_option linter.unusedSimpArgs false
attribute [local go_sem ↓] Go.wp_at_zero Go.wp_at_succ

def truthS : Sy := ⟨⟨#[36, 116, 114, 117, 101]⟩, 0, true⟩
def oneE (x : Sy) : Int := if nameB x.name = false then 111 else if x.arity < 0 ∨ 6 < x.arity then 112 else 0
def signL : List Sy → List Sy → Int
  | [], _ => 0
  | x :: r, seen => if oneE x ≠ 0 then oneE x else if seen.any (fun y => y.eqB x) then 113 else signL r (seen ++ [x])
def signE (l : List Sy) : Int := if 96 < l.length then 3 else match l with
  | [] => 110
  | t :: r => if t.eqB truthS then signL r [] else 110
theorem below_drewN_ {B : Nat} {w W : World} (h : Below B w W) (n : Nat) : Below B w (W.drewN n) := ⟨h.os, h.tape, h.output, h.size, h.block⟩
theorem ret_int {k : IntKind} {a b : Int} (h : a = b) : Ending.returned (.int k a) = .returned (.int k b) := by rw [h]

theorem oneE_ok {x : Sy} (h : oneE x = 0) : x.keyOk := by
  unfold oneE at h
  split at h
  · simp at h
  · rename_i hn
    split at h
    · simp at h
    · rename_i ha
      have : nameB x.name = true := by simpa using hn
      simp only [nameB, Bool.and_eq_true, decide_eq_true_eq] at this
      exact ⟨by have := this.1.2; simp only [maxLen]; omega, by omega, by omega⟩
set_option maxHeartbeats 1000000 in
theorem sign_truth (w : World) : Calls Tryd.prog 65 #[] w fun e w' => e = .returned truthS.val ∧ Below w.heap.size w w' := by
  go_enter Tryd.func65, Tryd.ntmps65
  go_wp2_with fail
  exact bodyPost_ret (v := truthS.val) (by simp [results, Tryd.results65, go_sem, truthS, Sy.val]) rfl ⟨rfl, (Below.refl _ _).alloc (Nat.le_refl _) _⟩
set_option maxHeartbeats 1000000 in
theorem sign_one (x : Sy) (w : World) : Calls Tryd.prog 66 #[x.val] w fun e w' => e = .returned (.int .i64 (oneE x)) ∧ Below w.heap.size w w' := by
  have HN := Lib.hid (fun W => sign_named x.name W)
  have hb := Lib.hid ((Below.refl w.heap.size w).alloc (Nat.le_refl _) (.cells #[.string x.name, .int .i64 x.arity, .bool x.pred] 76))
  unfold Sy.val
  cases hn : nameB x.name with
  | false =>
    rw [hn] at HN
    have hv : Hid (oneE x = 111) := Lib.hid (by unfold oneE; rw [if_pos hn])
    clear hn
    go_enter Tryd.func66, Tryd.ntmps66
    go_wp2_with fail
    refine (HN.out _).mono ?_
    rintro e w1 ⟨rfl, rfl⟩
    go_wp2_with fail
    go_ret
    exact ⟨ret_int hv.out.symm, hb.out⟩
  | true =>
    rw [hn] at HN
    have Hn := Lib.hid hn
    clear hn
    by_cases h0 : x.arity < 0
    · have hd : decide (x.arity < 0) = true := by simpa using h0
      have hv : Hid (oneE x = 112) := Lib.hid (by unfold oneE; rw [if_neg (by simp [Hn.out]), if_pos (.inl h0)])
      go_enter Tryd.func66, Tryd.ntmps66
      go_wp2_with fail
      refine (HN.out _).mono ?_
      rintro e w1 ⟨rfl, rfl⟩
      go_wp2_with fail
      go_ret
      exact ⟨ret_int hv.out.symm, hb.out⟩
    · have hd : decide (x.arity < 0) = false := by simp; omega
      by_cases h6 : 6 < x.arity
      · have hd6 : decide (6 < x.arity) = true := by simpa using h6
        have hv : Hid (oneE x = 112) := Lib.hid (by unfold oneE; rw [if_neg (by simp [Hn.out]), if_pos (.inr h6)])
        go_enter Tryd.func66, Tryd.ntmps66
        go_wp2_with fail
        refine (HN.out _).mono ?_
        rintro e w1 ⟨rfl, rfl⟩
        go_wp2_with fail
        go_ret
        exact ⟨ret_int hv.out.symm, hb.out⟩
      · have hd6 : decide (6 < x.arity) = false := by simp; omega
        have hv : Hid (oneE x = 0) := Lib.hid (by unfold oneE; rw [if_neg (by simp [Hn.out]), if_neg (by omega)])
        go_enter Tryd.func66, Tryd.ntmps66
        go_wp2_with fail
        refine (HN.out _).mono ?_
        rintro e w1 ⟨rfl, rfl⟩
        go_wp2_with fail
        go_ret
        exact ⟨ret_int hv.out.symm, hb.out⟩

set_option maxRecDepth 100000 in
set_option maxHeartbeats 2000000 in
theorem sign_Check (l : List Sy) (D : Nat → Prop) (w : World) (A : Option Addr) (cap : Nat) (hS : Sy.rd.Sl D w A cap l) :
    Calls Tryd.prog 43 #[.agg #[.slice A l.length cap]] w fun e w' => e = .returned (.int .i64 (signE l)) ∧ Below w.heap.size w w' := by
  have HS := Lib.hid (fun W hb => Rd.Sl.below (w' := W) hS hb)
  have hb := Lib.hid ((Below.refl w.heap.size w).alloc (Nat.le_refl _) (.cells #[.slice A l.length cap] 47))
  by_cases h96 : 96 < l.length
  · have hd : decide (96 < (l.length : Int)) = true := by simp; omega
    have hv : Hid (signE l = 3) := Lib.hid (by unfold signE; rw [if_pos h96])
    clear hS
    go_enter Tryd.func43, Tryd.ntmps43
    go_wp2_with fail
    go_ret
    exact ⟨ret_int hv.out.symm, hb.out⟩
  · have hd : decide (96 < (l.length : Int)) = false := by simp; omega
    have hcap := hS.le
    have hmx : cap ≤ 9223372036854775807 := hS.mx
    cases l with
    | nil =>
      have hv : Hid (signE [] = 110) := Lib.hid rfl
      clear hS
      simp only [List.length_nil] at *
      have he : ((0 : Int) == 0) = true := rfl
      go_enter Tryd.func43, Tryd.ntmps43
      go_wp2_with fail
      go_quiet (fail)
      go_wp2_with fail
      go_ret
      exact ⟨ret_int hv.out.symm, below_drewN_ hb.out _⟩
    | cons t r =>
      obtain ⟨b, o, rfl, hDb, t0, t1, t2⟩ := Sy.get_ (HS.out _ hb.out) 0 (by simp)
      simp only [Nat.zero_mul, Nat.add_zero, List.getElem_cons_zero, List.length_cons] at t0 t1 t2 hcap hd ⊢
      clear hS
      have hd2 : decide (96 < (r.length : Int) + 1) = false := by simp at h96 ⊢; omega
      have hne : (((r.length + 1 : Nat) : Int) == 0) = false := by simp; omega
      have hne2 : ((r.length : Int) + 1 == 0) = false := by simp; omega
      have hq := fun W => sy_neq t truthS W
      simp only [Sy.val, truthS] at hq
      have HTr : Hid (∀ W, Calls Tryd.prog 65 #[] W fun e w' => e = .returned (.agg #[.string ⟨#[36, 116, 114, 117, 101]⟩, .int .i64 0, .bool true]) ∧ Below W.heap.size W w') := Lib.hid (fun W => sign_truth W)
      have hG := fun x y xs ys W => run_eqGuard_agg (P := Tryd.prog) W .neq 76 x y xs ys (by kernel_rfl)
      have hbl := World.block_lt_of_cell? _ _ t0
      simp only [World.size_alloc] at hbl
      cases ht : t.eqB truthS with
      | false =>
        have hv : Hid (signE (t :: r) = 110) := Lib.hid (by unfold signE; rw [if_neg h96]; simp [ht])
        have Ht := Lib.hid ht
        simp only [truthS] at ht
        rw [ht] at hq
        clear ht h96
        go_enter Tryd.func43, Tryd.ntmps43
        go_wp2_with fail
        go_region_held3 (fun w' => w'.cell? ⟨w.heap.size, 0, none⟩ = some (.slice (some ⟨b, o, none⟩) (r.length + 1) cap) ∧ w'.cell? ⟨b, o, none⟩ = some (.string t.name) ∧ w'.cell? ⟨b, o + 1, none⟩ = some (.int .i64 t.arity) ∧ w'.cell? ⟨b, o + 2, none⟩ = some (.bool t.pred))
          (go_keep) (first | (go_at_call 65; refine (HTr.out _).mono ?_; rintro e w1 ⟨rfl, hb1⟩; have hc1 := bcell hb1))
        go_wp2_with fail
        go_ret
        have hz : w.heap.size ≤ (w.alloc (.cells #[.slice (some ⟨b, o, none⟩) (r.length + 1) cap] 47)).heap.size := by simp
        exact ⟨ret_int hv.out.symm, hb.out.drew.trans (hb1.mono hz)⟩
      | true =>
        have hv : Hid (signE (t :: r) = signL r []) := Lib.hid (by unfold signE; rw [if_neg h96]; simp [ht])
        have Ht := Lib.hid ht
        simp only [truthS] at ht
        rw [ht] at hq
        have hmm := @run_makeMap Tryd.prog
        clear ht h96
        by_cases hc1 : cap = 1
        · subst hc1
          obtain rfl : r = [] := List.eq_nil_of_length_eq_zero (by omega)
          simp only [List.length_nil, Nat.zero_add] at *
          go_enter Tryd.func43, Tryd.ntmps43
          go_wp2_with fail
          go_region_held3 (fun w' => w'.cell? ⟨w.heap.size, 0, none⟩ = some (.slice (some ⟨b, o, none⟩) 1 1) ∧ w'.cell? ⟨b, o, none⟩ = some (.string t.name) ∧ w'.cell? ⟨b, o + 1, none⟩ = some (.int .i64 t.arity) ∧ w'.cell? ⟨b, o + 2, none⟩ = some (.bool t.pred))
          (go_keep) (first | (go_at_call 65; refine (HTr.out _).mono ?_; rintro e w1 ⟨rfl, hb1⟩; have hcc := bcell hb1))
          have q0 : w1.cell? ⟨w.heap.size, 0, none⟩ = some (.slice (some ⟨b, o, none⟩) 1 1) := (hcc.1 _ _ (by simp)).trans (by simp [go_sem])
          have q1 := fun o => cell_new q0 o
          have hz : w.heap.size + 1 ≤ w1.heap.size := by have := hb1.size; simpa using this
          have hz0 : w.heap.size ≤ (w.alloc (.cells #[.slice (some ⟨b, o, none⟩) 1 1] 47)).heap.size := by simp
          have hB1 := Lib.hid (hb.out.drew.trans (hb1.mono hz0))
          clear hcc hb1 hz0 t0 t1 t2 hq HTr hG hbl hne hne2 hd hd2
          go_wp2_with fail
          go_loopw [32] (fun i wr => i = .int .i64 0 ∧ Hid (Below w.heap.size w wr)) (fun i _ => 0)
          case atStart => exact ⟨rfl, Lib.hid (hB1.out.alloc (by omega) _)⟩
          case round =>
            obtain ⟨rfl, hR⟩ := hrel
            go_wp2_with fail
            go_ret
            exact ⟨ret_int hv.out.symm, hR.out⟩
        · have hc2 : (1 : Int) < (cap : Int) := by omega
          have hc3 : 1 < cap := by omega
          go_enter Tryd.func43, Tryd.ntmps43
          go_wp2_with fail
          go_region_held3 (fun w' => w'.cell? ⟨w.heap.size, 0, none⟩ = some (.slice (some ⟨b, o, none⟩) (r.length + 1) cap) ∧ w'.cell? ⟨b, o, none⟩ = some (.string t.name) ∧ w'.cell? ⟨b, o + 1, none⟩ = some (.int .i64 t.arity) ∧ w'.cell? ⟨b, o + 2, none⟩ = some (.bool t.pred))
          (go_keep) (first | (go_at_call 65; refine (HTr.out _).mono ?_; rintro e w1 ⟨rfl, hb1⟩; have hcc := bcell hb1))
          have q0 : w1.cell? ⟨w.heap.size, 0, none⟩ = some (.slice (some ⟨b, o, none⟩) (r.length + 1) cap) := (hcc.1 _ _ (by simp)).trans (by simp [go_sem])
          have q1 := fun o => cell_new q0 o
          have hz : w.heap.size + 1 ≤ w1.heap.size := by have := hb1.size; simpa using this
          have hz0 : w.heap.size ≤ (w.alloc (.cells #[.slice (some ⟨b, o, none⟩) (r.length + 1) cap] 47)).heap.size := by simp
          have hB1 := Lib.hid (hb.out.drew.trans (hb1.mono hz0))
          clear hcc hb1 hz0 t0 t1 t2 hq HTr hG hbl hne hne2 hd hd2
          go_wp2_with fail
          go_loopw [32] (fun i wr => ∃ k : Nat, k ≤ r.length ∧ i = .int .i64 k ∧ Hid (Below w.heap.size w wr ∧ SymMap wr w1.heap.size (r.take k) ∧ (∀ y ∈ r.take k, y.keyOk) ∧ signL (r.drop k) (r.take k) = signL r []))
            (fun i _ => r.length - (intOf i).toNat)
          case atStart => exact ⟨0, Nat.zero_le _, rfl, Lib.hid ⟨hB1.out.alloc (by omega) _, ⟨#[], 0, blk_alloc_new _ _, rfl, by simp⟩, by simp, rfl⟩⟩
          case round =>
            obtain ⟨k, hk, rfl, hR⟩ := hrel
            by_cases hlt : k < r.length
            · obtain ⟨b_, o_, hA, -, x0, x1, x2⟩ := Sy.get_ (HS.out _ hR.out.1) (k + 1) (by simp; omega)
              obtain ⟨rfl, rfl⟩ : b = b_ ∧ o = o_ := by simpa using hA
              simp only [List.getElem_cons_succ, show o + (k + 1) * 3 = o + 3 + k * 3 by omega] at x0 x1 x2
              have hlss : decide ((k : Int) < (r.length : Int)) = true := by simp; omega
              have hdk : r.drop k = r[k] :: r.drop (k + 1) := by rw [List.drop_eq_getElem_cons hlt]
              have htk : r.take (k + 1) = r.take k ++ [r[k]] := by rw [List.take_succ_eq_append_getElem hlt]
              have HL := Lib.hid (show signL (r[k] :: r.drop (k + 1)) (r.take k) = signL r [] by rw [← hdk]; exact hR.out.2.2.2)
              have HTk := Lib.hid htk
              have hwz := hR.out.2.1.lt
              have hwz2 := hR.out.1.size
              have hcap' : r.length ≤ cap - 1 := by omega
              have hbk := World.block_lt_of_cell? _ _ x0
              simp only at hbk
              have HO := Lib.hid (fun W => sign_one r[k] W)
              simp only [Sy.val] at HO
              clear hA hdk htk q0 q1
              obtain ⟨e1, he1⟩ : ∃ e1, oneE r[k] = e1 := ⟨_, rfl⟩
              rw [he1] at HO
              by_cases h0 : e1 = 0
              · subst h0
                have hkx := oneE_ok he1
                have hwm : Hid (∀ W, (∀ q, q = w1.heap.size → W.heap[q]? = wr.heap[q]?) → SymMap W w1.heap.size (r.take k)) := Lib.hid (fun W hW => hR.out.2.1.keep (hW _ rfl))
                have hbx := Lib.hid (hR.out.1.alloc hwz2 (.cells #[.string r[k].name, .int .i64 r[k].arity, .bool r[k].pred] 76))
                have HE1 := Lib.hid he1
                clear he1
                go_wp2_with fail
                refine (HO.out _).mono ?_
                rintro e w2 ⟨rfl, hb2⟩
                have y0 : w2.cell? ⟨wr.heap.size, 0, none⟩ = some (.string r[k].name) := (hb2.cell (by simp)).trans (by simp [go_sem])
                have y1 : w2.cell? ⟨wr.heap.size, 1, none⟩ = some (.int .i64 r[k].arity) := (hb2.cell (by simp)).trans (by simp [go_sem])
                have y2 : w2.cell? ⟨wr.heap.size, 2, none⟩ = some (.bool r[k].pred) := (hb2.cell (by simp)).trans (by simp [go_sem])
                have hm2 : SymMap w2 w1.heap.size (r.take k) := hwm.out w2 (fun q hq => by subst hq; exact (hb2.block _ (by simp; omega)).trans (Below.heap_alloc _ _ _ hwz))
                have hB2 := Lib.hid (hbx.out.trans (hb2.mono (by simp; omega)))
                obtain ⟨i, bb, hbb, hlook⟩ := symMap_look hm2 hR.out.2.2.1 r[k] hkx
                clear hb2
                cases bb with
                | true =>
                  have hfin : Hid (signE (t :: r) = 113) := Lib.hid (by
                    rw [hv.out, ← HL.out, signL, if_neg (by rw [HE1.out]; simp), if_pos]
                    exact List.any_eq_true.2 ⟨r[k], hbb.1 rfl, (Sy.eqB_iff _ _).2 rfl⟩)
                  simp only [Sy.val] at hlook
                  clear hbb hm2
                  go_wp2_with fail
                  go_ret
                  exact ⟨ret_int hfin.out.symm, hB2.out⟩
                | false =>
                  have hni : r[k] ∉ r.take k := fun h => by have := hbb.2 h; simp at this
                  obtain ⟨w3, hup, hm3, hc3'⟩ := symMap_new hm2 hR.out.2.2.1 r[k] hkx hni k
                  have hfin : Hid (signL (r.drop (k + 1)) (r.take (k + 1)) = signL r []) := Lib.hid (by
                    rw [← HL.out, signL, if_neg (by rw [HE1.out]; simp), if_neg, HTk.out]
                    intro h
                    obtain ⟨y, hy, h⟩ := List.any_eq_true.1 h
                    rw [Sy.eqB_iff] at h
                    subst h
                    exact hni hy)
                  have HM3 := Lib.hid hm3
                  have HC3 := Lib.hid hc3'
                  have HKx := Lib.hid hkx
                  simp only [Sy.val] at hlook hup
                  clear hbb hm2 hni hm3 hc3' hkx
                  go_wp2_with fail
                  go_roundw
                  case rel =>
                    refine ⟨k + 1, hlt, by go_num, Lib.hid ⟨hB2.out.trans (HC3.out.below (by omega) hB2.out.size), ?_, ?_, hfin.out⟩⟩
                    · rw [HTk.out]; exact HM3.out
                    · rw [HTk.out]
                      intro y hy
                      rcases List.mem_append.1 hy with h | h
                      · exact hR.out.2.2.1 y h
                      · rw [List.mem_singleton.1 h]; exact HKx.out
                  case measure => simp [intOf]; omega
              · have hne0 : (e1 != 0) = true := by simpa using h0
                have hfin : Hid (signE (t :: r) = e1) := Lib.hid (by rw [hv.out, ← HL.out, signL, if_pos (by rw [he1]; exact h0), he1])
                clear he1 h0
                go_wp2_with fail
                refine (HO.out _).mono ?_
                rintro e w2 ⟨rfl, hb2⟩
                go_wp2_with fail
                go_ret
                refine ⟨ret_int hfin.out.symm, (hR.out.1.alloc hwz2 _).trans (hb2.mono (by simp; omega))⟩
            · obtain rfl : k = r.length := by omega
              have hlss : decide ((r.length : Int) < (r.length : Int)) = false := by simp
              have hfin : Hid (signE (t :: r) = 0) := Lib.hid (by rw [hv.out, ← hR.out.2.2.2, List.drop_length]; rfl)
              go_wp2_with fail
              go_ret
              exact ⟨ret_int hfin.out.symm, hR.out.1⟩
end Go.Proofs.YtkgkdfhipgjobaaDoor
