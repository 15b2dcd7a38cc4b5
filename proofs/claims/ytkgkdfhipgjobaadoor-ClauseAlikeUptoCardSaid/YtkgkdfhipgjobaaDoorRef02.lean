/- The reference's measures of terms: Size, Depth, low, Small; of clauses: Small. -/
import Derived.Test.YtkgkdfhipgjobaaDoorProg
import Derived.Test.YtkgkdfhipgjobaaDoorTerm
import Derived.BigQuiet
import Derived.KernelRfl
import Derived.Outline
namespace Go.Proofs.YtkgkdfhipgjobaaDoor
open Go.RowKit
set_option linter.unusedVariables false
set_option linter.unusedSimpArgs false

/-! ### plain -/
theorem Tm.nodesL_take (l : List Tm) (k : Nat) (h : k < l.length) : Tm.nodesL (l.take (k + 1)) = Tm.nodesL (l.take k) + l[k].nodes := by
  induction l generalizing k with
  | nil => simp at h
  | cons t r ih =>
    cases k with
    | zero => simp [Tm.nodesL]
    | succ k => have := ih k (by simpa using h); simp [Tm.nodesL, this]; omega
theorem Tm.nodesL_take_le (l : List Tm) (k : Nat) : Tm.nodesL (l.take k) ≤ Tm.nodesL l := by
  induction l generalizing k with
  | nil => simp
  | cons t r ih =>
    cases k with
    | zero => simp [Tm.nodesL]
    | succ k => have := ih k; simp [Tm.nodesL]; omega
mutual
def Tm.depth : Tm → Nat
  | .mk _ l => Tm.depthL l + 1
def Tm.depthL : List Tm → Nat
  | [] => 0
  | t :: r => max (Tm.depth t) (Tm.depthL r)
end
theorem Tm.depth_mk (f : Int) (l : List Tm) : (Tm.mk f l).depth = Tm.depthL l + 1 := by rw [Tm.depth]
theorem Tm.depth_le (t : Tm) : t.depth ≤ t.nodes := by
  induction t using Tm.ind with
  | h f l ih =>
    rw [Tm.depth_mk, Tm.nodes_mk]
    have : Tm.depthL l ≤ Tm.nodesL l := by
      clear f
      induction l with
      | nil => simp [Tm.depthL]
      | cons t r ihr =>
        have h1 := ih t (by simp)
        have h2 := ihr (fun u hu => ih u (by simp [hu]))
        simp [Tm.depthL, Tm.nodesL]
        omega
    omega
theorem Tm.depthL_take (l : List Tm) (k : Nat) (h : k < l.length) : Tm.depthL (l.take (k + 1)) = max (Tm.depthL (l.take k)) l[k].depth := by
  induction l generalizing k with
  | nil => simp at h
  | cons t r ih =>
    cases k with
    | zero => simp [Tm.depthL]
    | succ k => have := ih k (by simpa using h); simp [Tm.depthL, this, Nat.max_assoc]
mutual
def Tm.low (m : Int) : Tm → Bool
  | .mk f l => if f < 0 then decide (-m ≤ f) && l.isEmpty else Tm.lowL m l
def Tm.lowL (m : Int) : List Tm → Bool
  | [] => true
  | t :: r => Tm.low m t && Tm.lowL m r
end
def Tm.smallB (m : Int) (t : Tm) : Bool := decide (t.nodes ≤ 300) && (decide (t.depth ≤ 30) && t.low m)

/-! ### walks -/
/-- What lies in a parameter's box, later. -/
theorem box2 {w wr : World} {c0 c1 : Value} {t : TypeId} (hB : Hid (Below (w.heap.size + 1) (w.alloc (.cells #[c0, c1] t)) wr)) : wr.cell? ⟨w.heap.size, 0, none⟩ = some c0 ∧ wr.cell? ⟨w.heap.size, 1, none⟩ = some c1 := by
  obtain ⟨hc, -⟩ := bcell hB.out
  exact ⟨by rw [hc _ _ (by omega)]; simp [go_sem], by rw [hc _ _ (by omega)]; simp [go_sem]⟩
theorem below_box {w wr : World} {o : Obj} (hB : Hid (Below (w.heap.size + 1) (w.alloc o) wr)) : Hid (Below w.heap.size w wr) := ((Below.refl _ w).alloc (Nat.le_refl _) _).trans (hB.out.mono (by omega))


set_option maxHeartbeats 400000 in
theorem ref02_Size : ∀ (t : Tm) (D : Nat → Prop) (w : World) (A : Option Addr) (cap : Nat), Tm.K D w t [.int .i64 t.hd, .slice A t.args.length cap] → t.nodes ≤ 1099511627776 →
    Calls Tryd.prog 30 #[.agg #[.int .i64 t.hd, .slice A t.args.length cap]] w fun e w' => e = .returned (.int .i64 t.nodes) ∧ Below w.heap.size w w' := by
  intro t
  induction t using Tm.ind with
  | h f l ih =>
  intro D w A cap hK hn
  obtain ⟨A', cap', e, hS⟩ := hK.open_
  simp only [List.cons.injEq, Value.slice.injEq, and_true] at e
  obtain ⟨-, rfl, -, rfl⟩ := e
  have hv : Hid (((Tm.mk f l).nodes : Nat) = 1 + Tm.nodesL l) := Tm.nodes_mk f l
  rw [Tm.nodes_mk] at hn
  have HI := Lib.hid ih
  have HS := Lib.hid hS
  have hle : l.length ≤ 9223372036854775807 := Nat.le_trans hS.le hS.mx
  have hcap : cap ≤ 9223372036854775807 := hS.mx
  have hle2 := hS.le
  clear ih hS hK
  simp only [Tm.hd, Tm.args]
  go_enter Tryd.func30, Tryd.ntmps30
  go_wp2_with fail
  go_loopw [3, 4] (fun n i wr => ∃ k : Nat, k ≤ l.length ∧ i = .int .i64 k ∧ n = .int .i64 (1 + Tm.nodesL (l.take k) : Nat) ∧ Hid (Below (w.heap.size + 1) (w.alloc (.cells #[.int .i64 f, .slice A l.length cap] 30)) wr))
    (fun _ i _ => l.length - (intOf i).toNat)
  case atStart => exact ⟨0, Nat.zero_le _, rfl, by simp [Tm.nodesL], Below.refl _ _⟩
  case round =>
    obtain ⟨k, hk, rfl, rfl, hB⟩ := hrel
    obtain ⟨hx0, hx1⟩ := box2 hB
    have hb := below_box hB
    have hs := Tm.nodesL_take_le l k
    by_cases hlt : k < l.length
    · obtain ⟨b, o, A1, c1, rfl, hDb, hK, h0, h1⟩ := Tm.get_ (HS.out.below hb.out) k hlt
      have hK' := Lib.hid hK
      have hnk := Tm.nodes_get k hlt
      have hsn := Tm.nodesL_take l k hlt
      have hsn' := Tm.nodesL_take_le l (k + 1)
      have Hs := Lib.hid hsn
      have hsz := hB.out.size
      simp at hsz
      clear hK hsn
      go_wp2_with (go_at_call 30; refine (HI.out _ (List.getElem_mem hlt) D _ _ _ hK'.out (by omega)).mono ?_; rintro e w1 ⟨rfl, hb1⟩)
      go_roundw
      case rel =>
        refine ⟨k + 1, by omega, by go_num, ?_, hB.out.trans (hb1.mono (by omega))⟩
        rw [Hs.out]; go_num
      case measure => simp [intOf]; omega
    · obtain rfl : k = l.length := by omega
      go_wp2_with fail
      go_ret
      exact ⟨by rw [hv.out, List.take_length]; rfl, hb.out⟩

set_option maxHeartbeats 400000 in
theorem ref02_Depth : ∀ (t : Tm) (D : Nat → Prop) (w : World) (A : Option Addr) (cap : Nat), Tm.K D w t [.int .i64 t.hd, .slice A t.args.length cap] → t.nodes ≤ 1099511627776 →
    Calls Tryd.prog 31 #[.agg #[.int .i64 t.hd, .slice A t.args.length cap]] w fun e w' => e = .returned (.int .i64 t.depth) ∧ Below w.heap.size w w' := by
  intro t
  induction t using Tm.ind with
  | h f l ih =>
  intro D w A cap hK hn
  obtain ⟨A', cap', e, hS⟩ := hK.open_
  simp only [List.cons.injEq, Value.slice.injEq, and_true] at e
  obtain ⟨-, rfl, -, rfl⟩ := e
  have hv : Hid (((Tm.mk f l).depth : Nat) = Tm.depthL l + 1) := Tm.depth_mk f l
  have hdl : Tm.depthL l ≤ Tm.nodesL l := by have := Tm.depth_le (.mk f l); rw [Tm.depth_mk, Tm.nodes_mk] at this; omega
  rw [Tm.nodes_mk] at hn
  have HI := Lib.hid ih
  have HS := Lib.hid hS
  have hle : l.length ≤ 9223372036854775807 := Nat.le_trans hS.le hS.mx
  have hcap : cap ≤ 9223372036854775807 := hS.mx
  have hle2 := hS.le
  clear ih hS hK
  simp only [Tm.hd, Tm.args]
  go_enter Tryd.func31, Tryd.ntmps31
  go_wp2_with fail
  go_loopw [3, 4] (fun n i wr => ∃ k : Nat, k ≤ l.length ∧ i = .int .i64 k ∧ n = .int .i64 (Tm.depthL (l.take k) : Nat) ∧ Hid (Below (w.heap.size + 1) (w.alloc (.cells #[.int .i64 f, .slice A l.length cap] 30)) wr))
    (fun _ i _ => l.length - (intOf i).toNat)
  case atStart => exact ⟨0, Nat.zero_le _, rfl, by simp [Tm.depthL], Below.refl _ _⟩
  case round =>
    obtain ⟨k, hk, rfl, rfl, hB⟩ := hrel
    obtain ⟨hx0, hx1⟩ := box2 hB
    have hb := below_box hB
    by_cases hlt : k < l.length
    · obtain ⟨b, o, A1, c1, rfl, hDb, hK, h0, h1⟩ := Tm.get_ (HS.out.below hb.out) k hlt
      have hK' := Lib.hid hK
      have hnk := Tm.nodes_get k hlt
      have hsn := Tm.depthL_take l k hlt
      have Hs := Lib.hid hsn
      have hsz := hB.out.size
      simp at hsz
      clear hK hsn
      go_wp2_with (go_at_call 31; refine (HI.out _ (List.getElem_mem hlt) D _ _ _ hK'.out (by omega)).mono ?_; rintro e w1 ⟨rfl, hb1⟩)
      all_goals
        go_roundw
        case rel =>
          refine ⟨k + 1, by omega, by go_num, ?_, hB.out.trans (hb1.mono (by omega))⟩
          rw [Hs.out]; go_num
        case measure => simp [intOf]; omega
    · obtain rfl : k = l.length := by omega
      rw [List.take_length]
      go_wp2_with fail
      go_ret
      exact ⟨by rw [hv.out]; rfl, hb.out⟩

theorem Tm.low_mk (m f : Int) (l : List Tm) : (Tm.mk f l).low m = if f < 0 then decide (-m ≤ f) && l.isEmpty else Tm.lowL m l := by rw [Tm.low]
theorem Tm.lowL_false (m : Int) {l : List Tm} (i : Nat) (h : i < l.length) (hp : l[i].low m = false) : Tm.lowL m l = false := by
  induction l generalizing i with
  | nil => simp at h
  | cons t r ih =>
    cases i with
    | zero => rw [Tm.lowL]; rw [List.getElem_cons_zero] at hp; simp [hp]
    | succ i => rw [List.getElem_cons_succ] at hp; rw [Tm.lowL, ih i (by simpa using h) hp, Bool.and_false]
theorem Tm.lowL_true (m : Int) {l : List Tm} (h : ∀ i (h : i < l.length), l[i].low m = true) : Tm.lowL m l = true := by
  induction l with
  | nil => rfl
  | cons t r ih => rw [Tm.lowL, show t.low m = true from h 0 (by simp), ih (fun i hi => h (i + 1) (by simpa using hi))]; rfl

set_option maxHeartbeats 400000 in
theorem ref02_low (m : Int) (hm0 : 0 ≤ m) (hm1 : m ≤ 1000000) : ∀ (t : Tm) (D : Nat → Prop) (w : World) (A : Option Addr) (cap : Nat), Tm.K D w t [.int .i64 t.hd, .slice A t.args.length cap] →
    Calls Tryd.prog 32 #[.agg #[.int .i64 t.hd, .slice A t.args.length cap], .int .i64 m] w fun e w' => e = .returned (.bool (t.low m)) ∧ Below w.heap.size w w' := by
  intro t
  induction t using Tm.ind with
  | h f l ih =>
  intro D w A cap hK
  obtain ⟨A', cap', e, hS⟩ := hK.open_
  simp only [List.cons.injEq, Value.slice.injEq, and_true] at e
  obtain ⟨-, rfl, -, rfl⟩ := e
  have HI := Lib.hid ih
  have HS := Lib.hid hS
  have hle : l.length ≤ 9223372036854775807 := Nat.le_trans hS.le hS.mx
  have hcap : cap ≤ 9223372036854775807 := hS.mx
  have hle2 := hS.le
  clear ih hS hK
  simp only [Tm.hd, Tm.args]
  by_cases hf : f < 0
  · have hv : Hid ((Tm.mk f l).low m = (decide (-m ≤ f) && l.isEmpty)) := by show _ = _; rw [Tm.low_mk, if_pos hf]
    have HB : Hid (∀ c t, Below w.heap.size w (w.alloc (.cells c t))) := fun c t => (Below.refl _ w).alloc (Nat.le_refl _) _
    by_cases hm : -m ≤ f
    · have hd : decide (-m ≤ f) = true := by simpa using hm
      by_cases hl : l = []
      · subst hl
        go_enter Tryd.func32, Tryd.ntmps32
        go_wp2_with fail
        go_ret
        exact ⟨by rw [hv.out]; simp [hm], HB.out _ _⟩
      · have hl' : ((l.length : Int) == 0) = false := by simpa using hl
        have HL := Lib.hid hl
        clear hl
        go_enter Tryd.func32, Tryd.ntmps32
        go_wp2_with fail
        go_ret
        exact ⟨by rw [hv.out]; simp [hm, HL.out], HB.out _ _⟩
    · have hd : decide (-m ≤ f) = false := by simpa using hm
      go_enter Tryd.func32, Tryd.ntmps32
      go_wp2_with fail
      go_ret
      exact ⟨by rw [hv.out]; simp [hd], HB.out _ _⟩
  · have hv : Hid ((Tm.mk f l).low m = Tm.lowL m l) := by show _ = _; rw [Tm.low_mk, if_neg hf]
    have hf0 : decide (f < 0) = false := by simpa using hf
    clear hf
    go_enter Tryd.func32, Tryd.ntmps32
    go_wp2_with fail
    go_loopw [5] (fun i wr => ∃ k : Nat, k ≤ l.length ∧ i = .int .i64 k ∧ Hid (∀ j (h : j < l.length), j < k → l[j].low m = true) ∧ Hid (Below (w.heap.size + 1) (w.alloc (.cells #[.int .i64 f, .slice A l.length cap] 30)) wr))
      (fun i _ => l.length - (intOf i).toNat)
    case atStart => exact ⟨0, Nat.zero_le _, rfl, fun j h h' => by omega, Below.refl _ _⟩
    case round =>
      obtain ⟨k, hk, rfl, hp, hB⟩ := hrel
      obtain ⟨hx0, hx1⟩ := box2 hB
      have hb := below_box hB
      by_cases hlt : k < l.length
      · obtain ⟨b, o, A1, c1, rfl, hDb, hK, h0, h1⟩ := Tm.get_ (HS.out.below hb.out) k hlt
        have hK' := Lib.hid hK
        have hsz := hB.out.size
        simp at hsz
        clear hK
        cases hq : l[k].low m with
        | true =>
          have Hq := Lib.hid hq
          clear hq
          go_wp2_with (go_at_call 32; refine (HI.out _ (List.getElem_mem hlt) D _ _ _ hK'.out).mono ?_; rw [Hq.out]; rintro e w1 ⟨rfl, hb1⟩)
          go_roundw
          case rel => exact ⟨k + 1, by omega, by go_num, fun j h h' => by by_cases e : j = k; (subst e; exact Hq.out); exact hp j h (by omega), hB.out.trans (hb1.mono (by omega))⟩
          case measure => simp [intOf]; omega
        | false =>
          have Hq := Lib.hid hq
          clear hq
          go_wp2_with (go_at_call 32; refine (HI.out _ (List.getElem_mem hlt) D _ _ _ hK'.out).mono ?_; rw [Hq.out]; rintro e w1 ⟨rfl, hb1⟩)
          go_ret
          exact ⟨by rw [hv.out, Tm.lowL_false m k hlt Hq.out]; rfl, hb.out.trans (hb1.mono (by omega))⟩
      · obtain rfl : k = l.length := by omega
        go_wp2_with fail
        go_ret
        exact ⟨by rw [hv.out, Tm.lowL_true m (fun j h => hp j h h)]; rfl, hb.out⟩

set_option maxHeartbeats 400000 in
theorem ref02_Small (m : Int) (hm0 : 0 ≤ m) (hm1 : m ≤ 1000000) (t : Tm) (D : Nat → Prop) (w : World) (A : Option Addr) (cap : Nat) (hK : Tm.K D w t [.int .i64 t.hd, .slice A t.args.length cap]) (hn : t.nodes ≤ 1099511627776) :
    Calls Tryd.prog 12 #[.agg #[.int .i64 t.hd, .slice A t.args.length cap], .int .i64 m] w fun e w' => e = .returned (.bool (t.smallB m)) ∧ Below w.heap.size w w' := by
  have HK := Lib.hid hK
  have hv : Hid (t.smallB m = (decide (t.nodes ≤ 300) && (decide (t.depth ≤ 30) && t.low m))) := rfl
  have HB : Hid (Below w.heap.size w (w.alloc (.cells #[.int .i64 t.hd, .slice A t.args.length cap] 30))) := (Below.refl _ w).alloc (Nat.le_refl _) _
  have HE : ∀ w1, Below w.heap.size w w1 → Tm.K D w1 t [.int .i64 t.hd, .slice A t.args.length cap] := fun w1 hb => Rd.below (d := Tm.rd) HK.out hb
  have HE := Lib.hid HE
  clear hK
  by_cases h1 : t.nodes ≤ 300
  · have hd1 : decide ((t.nodes : Int) ≤ 300) = true := by simp; omega
    by_cases h2 : t.depth ≤ 30
    · have hd2 : decide ((t.depth : Int) ≤ 30) = true := by simp; omega
      go_enter Tryd.func12, Tryd.ntmps12
      go_wp2_with fail
      refine (ref02_Size t D _ _ _ (HE.out _ HB.out) hn).mono ?_
      rintro e w1 ⟨rfl, hb1⟩
      obtain ⟨hx0, hx1⟩ := box2 (Lib.hid (hb1.mono (by simp)))
      have HB1 : Hid (Below w.heap.size w w1) := HB.out.trans (hb1.mono (by simp))
      have hs1 := hb1.size
      simp at hs1
      go_wp2_with fail
      refine (ref02_Depth t D _ _ _ (HE.out _ HB1.out) hn).mono ?_
      rintro e w2 ⟨rfl, hb2⟩
      have HB2 : Hid (Below w.heap.size w w2) := HB1.out.trans (hb2.mono (by omega))
      have hx0' : w2.cell? ⟨w.heap.size, 0, none⟩ = some (.int .i64 t.hd) := by rw [hb2.cell (by simp; omega)]; exact hx0
      have hx1' : w2.cell? ⟨w.heap.size, 1, none⟩ = some (.slice A t.args.length cap) := by rw [hb2.cell (by simp; omega)]; exact hx1
      have hs2 := hb2.size
      go_wp2_with fail
      refine (ref02_low m hm0 hm1 t D _ _ _ (HE.out _ HB2.out)).mono ?_
      rintro e w3 ⟨rfl, hb3⟩
      go_wp2_with fail
      go_ret
      exact ⟨by rw [hv.out]; simp [h1, h2], HB2.out.trans (hb3.mono (by omega))⟩
    · have hd2 : decide ((t.depth : Int) ≤ 30) = false := by simp; omega
      go_enter Tryd.func12, Tryd.ntmps12
      go_wp2_with fail
      refine (ref02_Size t D _ _ _ (HE.out _ HB.out) hn).mono ?_
      rintro e w1 ⟨rfl, hb1⟩
      obtain ⟨hx0, hx1⟩ := box2 (Lib.hid (hb1.mono (by simp)))
      have HB1 : Hid (Below w.heap.size w w1) := HB.out.trans (hb1.mono (by simp))
      have hs1 := hb1.size
      simp at hs1
      go_wp2_with fail
      refine (ref02_Depth t D _ _ _ (HE.out _ HB1.out) hn).mono ?_
      rintro e w2 ⟨rfl, hb2⟩
      have HB2 : Hid (Below w.heap.size w w2) := HB1.out.trans (hb2.mono (by omega))
      go_wp2_with fail
      go_ret
      exact ⟨by rw [hv.out]; simp [h2], HB2.out⟩
  · have hd1 : decide ((t.nodes : Int) ≤ 300) = false := by simp; omega
    go_enter Tryd.func12, Tryd.ntmps12
    go_wp2_with fail
    refine (ref02_Size t D _ _ _ (HE.out _ HB.out) hn).mono ?_
    rintro e w1 ⟨rfl, hb1⟩
    have HB1 : Hid (Below w.heap.size w w1) := HB.out.trans (hb1.mono (by simp))
    go_wp2_with fail
    go_ret
    exact ⟨by rw [hv.out]; simp [h1], HB1.out⟩
end Go.Proofs.YtkgkdfhipgjobaaDoor
