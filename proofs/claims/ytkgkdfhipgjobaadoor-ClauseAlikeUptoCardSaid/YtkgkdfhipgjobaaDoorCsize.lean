/- clause.Size: what it answers. -/
import Derived.Test.YtkgkdfhipgjobaaDoorCchk
namespace Go.Proofs.YtkgkdfhipgjobaaDoor
open Go.RowKit
set_option linter.unusedVariables false
set_option linter.unusedSimpArgs false

theorem nodesL_take_le (l : List Tm) (k : Nat) : Tm.nodesL (l.take k) ≤ Tm.nodesL l := by
  induction l generalizing k with
  | nil => simp
  | cons t r ih =>
    cases k with
    | zero => simp [Tm.nodesL]
    | succ k => have := ih k; simp [Tm.nodesL]; omega
theorem nodesL_snoc (l : List Tm) (k : Nat) (h : k < l.length) : Tm.nodesL (l.take (k + 1)) = Tm.nodesL (l.take k) + l[k].nodes := by
  induction l generalizing k with
  | nil => simp at h
  | cons t r ih =>
    cases k with
    | zero => simp [Tm.nodesL]
    | succ k => have := ih k (by simpa using h); simp [Tm.nodesL, this]; omega
set_option maxRecDepth 100000 in
set_option maxHeartbeats 1000000 in
theorem term_Size : ∀ (t : Tm) (D : Nat → Prop) (w : World) (A : Option Addr) (c : Nat), t.nodes ≤ 1099511627776 → Tm.K D w t [.int .i64 t.hd, .slice A t.args.length c] →
    Calls Tryd.prog 73 #[.agg #[.int .i64 t.hd, .slice A t.args.length c]] w fun e w' => e = .returned (.int .i64 (t.nodes : Nat)) ∧ Below w.heap.size w w' := by
  intro t
  induction t using Tm.ind with
  | h f l ih =>
  intro D w A c hn hK
  obtain ⟨A', cap', e, hS⟩ := hK.open_
  simp only [Tm.hd, Tm.args, List.cons.injEq, Value.slice.injEq, and_true, true_and] at e
  obtain ⟨rfl, rfl⟩ := e
  rw [Tm.nodes_mk] at hn
  have HI := Lib.hid ih
  have HS := Lib.hid (fun W hb => Rd.Sl.below (w' := W) hS hb)
  have hle : l.length ≤ 9223372036854775807 := Nat.le_trans hS.le hS.mx
  have hle2 := hS.le
  have hcap : c ≤ 9223372036854775807 := hS.mx
  have hv : Hid ((Tm.mk f l).nodes = 1 + Tm.nodesL l) := Lib.hid (Tm.nodes_mk f l)
  have B1 := Lib.hid ((Below.refl w.heap.size w).alloc (Nat.le_refl _) (.cells #[.int .i64 f, .slice A l.length c] 30))
  clear ih hS hK
  simp only [Tm.hd, Tm.args]
  go_enter Tryd.func73, Tryd.ntmps73
  go_wp2_with fail
  go_loopw [3, 9] (fun s i wr => ∃ k : Nat, k ≤ l.length ∧ i = .int .i64 k ∧ s = .int .i64 (1 + (Tm.nodesL (l.take k) : Nat) : Int) ∧ Hid (Below w.heap.size w wr)) (fun _ i _ => l.length - (intOf i).toNat)
  case atStart => exact ⟨0, Nat.zero_le _, rfl, by simp [Tm.nodesL], B1⟩
  case round =>
    obtain ⟨k, hk, rfl, rfl, hB⟩ := hrel
    by_cases hlt : k < l.length
    · have hlss : decide ((k : Int) < (l.length : Int)) = true := decide_eq_true (by omega)
      obtain ⟨b', o', A1, c1, rfl, hDb', hKk, p0, p1⟩ := Tm.get_ (HS.out _ hB.out) k hlt
      have hsn := nodesL_snoc l k hlt
      have ht1 := nodesL_take_le l k
      have ht2 := nodesL_take_le l (k + 1)
      have hkn : l[k].nodes ≤ 1099511627776 := by omega
      have HIk := Lib.hid (fun W hb => HI.out l[k] (List.getElem_mem hlt) D W A1 c1 hkn (Rd.below (d := Tm.rd) (w' := W) hKk hb))
      have HSn := Lib.hid hsn
      have hz := hB.out.size
      generalize Tm.nodesL (l.take k) = s at *
      generalize hnk : l[k].nodes = nk at *
      have hsum : s + nk ≤ 1099511627776 := by omega
      have HNk := Lib.hid hnk
      clear hKk hsn hnk ht2
      go_wp2_with fail
      refine (HIk.out _ ((Below.refl _ wr).alloc (Nat.le_refl _) _)).mono ?_
      rintro e w2 ⟨rfl, hb2⟩
      go_wp2_with fail
      go_roundw
      case rel => exact ⟨k + 1, hlt, by go_num, by rw [HSn.out]; first | (congr 1; omega) | (simp; omega), Lib.hid ((hB.out.alloc hz _).trans (hb2.mono (by simp; omega)))⟩
      case measure => simp [intOf]; omega
    · obtain rfl : k = l.length := by omega
      have hlss : decide ((l.length : Int) < (l.length : Int)) = false := by simp
      have ht1 : l.take l.length = l := List.take_length
      rw [ht1]
      clear ht1
      go_wp2_with fail
      go_ret
      exact ⟨ret_int (by rw [hv.out]; omega), hB.out⟩

def Lt.size (x : Lt) : Nat := x.l.nodes + if x.r.trueB then 0 else x.r.nodes
def sizeC : List Lt → Nat
  | [] => 0
  | x :: r => x.size + sizeC r
theorem sizeC_snoc (c : List Lt) (k : Nat) (h : k < c.length) : sizeC (c.take (k + 1)) = sizeC (c.take k) + c[k].size := by
  induction c generalizing k with
  | nil => simp at h
  | cons t r ih =>
    cases k with
    | zero => simp [sizeC]
    | succ k => have := ih k (by simpa using h); simp [sizeC, this]; omega
theorem sizeC_le (c : List Lt) (m : Nat) (h : ∀ x ∈ c, x.size ≤ m) : sizeC c ≤ c.length * m := by
  induction c with
  | nil => simp [sizeC]
  | cons x r ih =>
    have h1 := h x (by simp)
    have h2 := ih (fun y hy => h y (by simp [hy]))
    simp only [sizeC, List.length_cons, Nat.add_mul, Nat.one_mul]
    omega
set_option maxRecDepth 100000 in
set_option maxHeartbeats 1000000 in
theorem clause_size1 (x : Lt) (D : Nat → Prop) (w : World) (b o : Nat) (A1 A2 : Option Addr) (c1 c2 : Nat) (hn : x.l.nodes ≤ 1000000 ∧ x.r.nodes ≤ 1000000) (hK1 : Tm.K D w x.l [.int .i64 x.l.hd, .slice A1 x.l.args.length c1]) (hK2 : Tm.K D w x.r [.int .i64 x.r.hd, .slice A2 x.r.args.length c2])
    (x1 : w.cell? ⟨b, o + 1, none⟩ = some (.int .i64 x.l.hd)) (x2 : w.cell? ⟨b, o + 2, none⟩ = some (.slice A1 x.l.args.length c1)) (x3 : w.cell? ⟨b, o + 3, none⟩ = some (.int .i64 x.r.hd)) (x4 : w.cell? ⟨b, o + 4, none⟩ = some (.slice A2 x.r.args.length c2)) :
    Calls Tryd.prog 52 #[.pointer (some ⟨b, o, none⟩)] w fun e w' => e = .returned (.int .i64 (x.size : Nat)) ∧ Below w.heap.size w w' := by
  have HL := Lib.hid (term_Size x.l D w A1 c1 (by omega) hK1)
  have HR := Lib.hid (fun W hb => term_Size x.r D W A2 c2 (by omega) (Rd.below (d := Tm.rd) (w' := W) hK2 hb))
  have HT := Lib.hid (fun W => clause_True x.r W A2 c2)
  have hbl := World.block_lt_of_cell? _ _ x1
  simp only at hbl
  have HX := Lib.hid (And.intro x3 x4)
  obtain ⟨n1, hn1⟩ : ∃ n, x.l.nodes = n := ⟨_, rfl⟩
  obtain ⟨n2, hn2⟩ : ∃ n, x.r.nodes = n := ⟨_, rfl⟩
  have hle1 : n1 ≤ 1000000 := by omega
  have hle2 : n2 ≤ 1000000 := by omega
  rw [hn1] at HL
  rw [hn2] at HR
  cases hr : x.r.trueB with
  | true =>
    rw [hr] at HT
    have hv : Hid (x.size = n1) := Lib.hid (by unfold Lt.size; rw [hn1, hr]; rfl)
    clear hn hK1 hK2 hn1 hn2 hr
    go_enter Tryd.func52, Tryd.ntmps52
    go_wp2_with fail
    refine Calls.mono HL.out ?_
    rintro e w1 ⟨rfl, hb1⟩
    have y3 := (hb1.cell (p := ⟨b, o + 3, none⟩) hbl).trans HX.out.1
    have y4 := (hb1.cell (p := ⟨b, o + 4, none⟩) hbl).trans HX.out.2
    have HB1 := Lib.hid hb1
    clear x1 x2 x3 x4 hb1
    go_wp2_with fail
    refine (HT.out _).mono ?_
    rintro e w2 ⟨rfl, hb2⟩
    go_wp2_with fail
    go_ret
    exact ⟨ret_int (by rw [hv.out]), HB1.out.trans (hb2.mono HB1.out.size)⟩
  | false =>
    rw [hr] at HT
    have hv : Hid (x.size = n1 + n2) := Lib.hid (by unfold Lt.size; rw [hn1, hn2, hr]; rfl)
    clear hn hK1 hK2 hn1 hn2 hr
    go_enter Tryd.func52, Tryd.ntmps52
    go_wp2_with fail
    refine Calls.mono HL.out ?_
    rintro e w1 ⟨rfl, hb1⟩
    have y3 := (hb1.cell (p := ⟨b, o + 3, none⟩) hbl).trans HX.out.1
    have y4 := (hb1.cell (p := ⟨b, o + 4, none⟩) hbl).trans HX.out.2
    have hbl1 := World.block_lt_of_cell? _ _ y3
    simp only at hbl1
    have HB1 := Lib.hid hb1
    have HY := Lib.hid (And.intro y3 y4)
    clear x1 x2 x3 x4 hb1
    go_wp2_with fail
    refine (HT.out _).mono ?_
    rintro e w2 ⟨rfl, hb2⟩
    have z3 := (hb2.cell (p := ⟨b, o + 3, none⟩) hbl1).trans HY.out.1
    have z4 := (hb2.cell (p := ⟨b, o + 4, none⟩) hbl1).trans HY.out.2
    have HB2 := Lib.hid (HB1.out.trans (hb2.mono HB1.out.size))
    clear y3 y4 hb2
    go_wp2_with fail
    refine (HR.out _ HB2.out).mono ?_
    rintro e w3 ⟨rfl, hb3⟩
    go_wp2_with fail
    go_ret
    exact ⟨ret_int (by rw [hv.out]; omega), HB2.out.trans (hb3.mono HB2.out.size)⟩
set_option maxRecDepth 100000 in
set_option maxHeartbeats 1000000 in
theorem lits_size (c : List Lt) (D : Nat → Prop) (w : World) (A : Option Addr) (cc : Nat) (hcl : c.length ≤ 1000000) (hn : ∀ x ∈ c, x.l.nodes ≤ 1000000 ∧ x.r.nodes ≤ 1000000) (hC : Lt.rd.Sl D w A cc c) :
    Calls Tryd.prog 37 #[.slice A c.length cc] w fun e w' => e = .returned (.int .i64 (sizeC c : Nat)) ∧ Below w.heap.size w w' := by
  have HC := Lib.hid (fun W hb => Rd.Sl.below (w' := W) hC hb)
  have HN := Lib.hid hn
  have hcl2 := hC.le
  have hcl3 : cc ≤ 9223372036854775807 := hC.mx
  have HLe : Hid (∀ k, sizeC (c.take k) ≤ 2000000000000) := Lib.hid (fun k => by
    have h1 := sizeC_le (c.take k) 2000000 (fun x hx => by
      have h3 := hn x (List.mem_of_mem_take hx)
      unfold Lt.size
      split <;> omega)
    have h2 : (c.take k).length ≤ 1000000 := by rw [List.length_take]; omega
    have h3 : (c.take k).length * 2000000 ≤ 2000000000000 := by omega
    exact Nat.le_trans h1 h3)
  clear hC hn
  go_enter Tryd.func37, Tryd.ntmps37
  go_wp2_with fail
  go_loopw [3, 7] (fun s i wr => ∃ k : Nat, k ≤ c.length ∧ i = .int .i64 k ∧ s = .int .i64 (sizeC (c.take k) : Nat) ∧ Hid (Below w.heap.size w wr)) (fun _ i _ => c.length - (intOf i).toNat)
  case atStart => exact ⟨0, Nat.zero_le _, rfl, rfl, Lib.hid (Below.refl _ _)⟩
  case round =>
    obtain ⟨k, hk, rfl, rfl, hB⟩ := hrel
    by_cases hlt : k < c.length
    · have hlss : decide ((k : Int) < (c.length : Int)) = true := decide_eq_true (by omega)
      obtain ⟨b, o, A1, c1, A2, c2, rfl, hD, hK1, hK2, x0, x1, x2, x3, x4⟩ := Lt.get_ (HC.out _ hB.out) k hlt
      have HS1 := Lib.hid (clause_size1 c[k] D wr b (o + k * 5) A1 A2 c1 c2 (HN.out _ (List.getElem_mem hlt)) hK1 hK2 x1 x2 x3 x4)
      have HSn := Lib.hid (sizeC_snoc c k hlt)
      have hl1 := HLe.out k
      have hl2 := HLe.out (k + 1)
      rw [HSn.out] at hl2
      generalize sizeC (c.take k) = s at *
      generalize c[k].size = nk at *
      clear x0 x1 x2 x3 x4 hK1 hK2
      go_wp2_with fail
      refine Calls.mono HS1.out ?_
      rintro e w2 ⟨rfl, hb2⟩
      go_wp2_with fail
      go_roundw
      case rel => exact ⟨k + 1, hlt, by go_num, by rw [HSn.out]; first | (congr 1; omega) | (simp; omega) | rfl, Lib.hid (hB.out.trans (hb2.mono hB.out.size))⟩
      case measure => simp [intOf]; omega
    · obtain rfl : k = c.length := by omega
      have hlss : decide ((c.length : Int) < (c.length : Int)) = false := by simp
      have ht1 : c.take c.length = c := List.take_length
      rw [ht1]
      clear ht1
      go_wp2_with fail
      go_ret
      exact ⟨rfl, hB.out⟩
theorem clause_Size (c : List Lt) (D : Nat → Prop) (w : World) (A : Option Addr) (cc : Nat) (hcl : c.length ≤ 1000000) (hn : ∀ x ∈ c, x.l.nodes ≤ 1000000 ∧ x.r.nodes ≤ 1000000) (hC : Lt.rd.Sl D w A cc c) :
    Calls Tryd.prog 15 #[.slice A c.length cc] w fun e w' => e = .returned (.int .i64 (sizeC c : Nat)) ∧ Below w.heap.size w w' := by
  have HC := Lib.hid (lits_size c D w A cc hcl hn hC)
  clear hC hn
  go_enter Tryd.func15, Tryd.ntmps15
  go_wp2_with fail
  refine Calls.mono HC.out ?_
  rintro e w2 ⟨rfl, hb2⟩
  go_wp2_with fail
  go_ret
  exact ⟨rfl, hb2⟩
end Go.Proofs.YtkgkdfhipgjobaaDoor
