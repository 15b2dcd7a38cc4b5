/- term.Same; term.Size; term.Copy: what they answer. -/
import Derived.Test.YtkgkdfhipgjobaaDoorRef02
namespace Go.Proofs.YtkgkdfhipgjobaaDoor
open Go.RowKit
set_option linter.unusedVariables false
set_option linter.unusedSimpArgs false

mutual
def Tm.same : Tm → Tm → Bool
  | .mk f l, .mk g r => f == g && Tm.sameL l r
def Tm.sameL : List Tm → List Tm → Bool
  | [], [] => true
  | a :: r, b :: s => Tm.same a b && Tm.sameL r s
  | _, _ => false
end
theorem Tm.same_mk (f g : Int) (l r : List Tm) : (Tm.mk f l).same (.mk g r) = (f == g && Tm.sameL l r) := by rw [Tm.same]
theorem Tm.sameL_len {l r : List Tm} (h : l.length ≠ r.length) : Tm.sameL l r = false := by
  induction l generalizing r with
  | nil => cases r with
    | nil => simp at h
    | cons b s => rw [Tm.sameL] <;> simp
  | cons a l ih => cases r with
    | nil => rw [Tm.sameL] <;> simp
    | cons b s => rw [Tm.sameL, ih (by simpa using h), Bool.and_false]
theorem Tm.sameL_false {l r : List Tm} (i : Nat) (h : i < l.length) (h' : i < r.length) (hp : l[i].same r[i] = false) : Tm.sameL l r = false := by
  induction l generalizing r i with
  | nil => simp at h
  | cons a l ih => cases r with
    | nil => simp at h'
    | cons b s =>
      cases i with
      | zero => rw [List.getElem_cons_zero, List.getElem_cons_zero] at hp; rw [Tm.sameL, hp]; rfl
      | succ i => rw [List.getElem_cons_succ, List.getElem_cons_succ] at hp; rw [Tm.sameL, ih i (by simpa using h) (by simpa using h') hp, Bool.and_false]
theorem Tm.sameL_true {l r : List Tm} (hl : l.length = r.length) (h : ∀ i (h : i < l.length) (h' : i < r.length), l[i].same r[i] = true) : Tm.sameL l r = true := by
  induction l generalizing r with
  | nil => cases r with
    | nil => rw [Tm.sameL]
    | cons b s => simp at hl
  | cons a l ih => cases r with
    | nil => simp at hl
    | cons b s =>
      rw [Tm.sameL, show a.same b = true from h 0 (by simp) (by simp), ih (by simpa using hl) (fun i hi hi' => h (i + 1) (by simpa using hi) (by simpa using hi'))]; rfl
theorem Tm.same_iff : ∀ a b : Tm, a.same b = true ↔ a = b := by
  intro a
  induction a using Tm.ind with
  | h f l ih =>
    intro b
    cases b with
    | mk g r =>
      rw [Tm.same_mk]
      have : Tm.sameL l r = true ↔ l = r := by
        clear f g
        induction l generalizing r with
        | nil => cases r <;> simp [Tm.sameL]
        | cons a l ihl => cases r with
          | nil => simp [Tm.sameL]
          | cons b s =>
            rw [Tm.sameL, Bool.and_eq_true, ih a (by simp) b, ihl (fun t ht => ih t (by simp [ht])) s]
            simp
      rw [Bool.and_eq_true, this]
      simp

/-! ### walks -/
/-- What a term-comparing function value is asked to do. -/
def SameAt (t : Tm) : Prop := ∀ (u : Tm) (D : Nat → Prop) (w : World) (A B : Option Addr) (c c' : Nat), Tm.K D w t [.int .i64 t.hd, .slice A t.args.length c] → Tm.K D w u [.int .i64 u.hd, .slice B u.args.length c'] →
    Calls Tryd.prog 42 #[.agg #[.int .i64 t.hd, .slice A t.args.length c], .agg #[.int .i64 u.hd, .slice B u.args.length c']] w fun e w' => e = .returned (.bool (t.same u)) ∧ Below w.heap.size w w'

set_option maxHeartbeats 400000 in
theorem equalFunc_terms (l r : List Tm) (HI : ∀ t ∈ l, SameAt t) (D : Nat → Prop) (w : World) (A B : Option Addr) (c c' : Nat) (hl : Tm.rd.Sl D w A c l) (hr : Tm.rd.Sl D w B c' r) :
    Calls Tryd.prog 64 #[.slice A l.length c, .slice B r.length c', .func (.func 42) #[] #[]] w fun e w' =>
      e = .returned (.bool (Tm.sameL l r)) ∧ Below w.heap.size w w' := by
  have HI := Lib.hid HI
  have HL := Lib.hid hl
  have HR := Lib.hid hr
  have hlm : l.length ≤ 9223372036854775807 := Nat.le_trans hl.le hl.mx
  have hrm : r.length ≤ 9223372036854775807 := Nat.le_trans hr.le hr.mx
  clear hl hr
  by_cases hn : l.length = r.length
  · have hn' : (l.length != r.length) = false := by simp [hn]
    have hn2 : ((l.length : Int) != (r.length : Int)) = false := by simp [hn]
    have Hn := Lib.hid hn
    clear hn
    go_enter Tryd.func64, Tryd.ntmps64
    go_wp2_with fail
    go_loopw [17] (fun i wr => ∃ k : Nat, k ≤ l.length ∧ i = .int .i64 k ∧ Hid (∀ j (h : j < l.length) (h' : j < r.length), j < k → l[j].same r[j] = true) ∧ Hid (Below w.heap.size w wr))
      (fun i _ => l.length - (intOf i).toNat)
    case atStart => exact ⟨0, Nat.zero_le _, rfl, fun j h h' h'' => by omega, Below.refl _ _⟩
    case round =>
      obtain ⟨k, hk, rfl, hp, hB⟩ := hrel
      by_cases hlt : k < l.length
      · have hlt' : k < r.length := by rw [← Hn.out]; exact hlt
        obtain ⟨b1, o1, A1, c1, rfl, hD1, hK1, h0, h1⟩ := Tm.get_ (HL.out.below hB.out) k hlt
        obtain ⟨b2, o2, A2, c2, rfl, hD2, hK2, g0, g1⟩ := Tm.get_ (HR.out.below hB.out) k hlt'
        have l1 := World.block_lt_of_cell? wr _ h0
        have l2 := World.block_lt_of_cell? wr _ g0
        simp only at l1 l2
        have HK1 := Lib.hid (fun o1 o2 => Rd.below (d := Tm.rd) hK1 (((Below.refl _ wr).alloc (Nat.le_refl _) o1).alloc (by simp) o2))
        have HK2 := Lib.hid (fun o1 o2 => Rd.below (d := Tm.rd) hK2 (((Below.refl _ wr).alloc (Nat.le_refl _) o1).alloc (by simp) o2))
        have HB2 := Lib.hid (fun o1 o2 => ((Below.refl wr.heap.size wr).alloc (Nat.le_refl _) o1).alloc (by simp) o2)
        have hsz := hB.out.size
        clear hK1 hK2
        cases hq : l[k].same r[k] with
        | true =>
          have Hq := Lib.hid hq
          clear hq
          go_wp2_with (go_at_call 42; refine (HI.out _ (List.getElem_mem hlt) _ D _ _ _ _ _ (HK1.out _ _) (HK2.out _ _)).mono ?_; rw [Hq.out]; rintro e w1 ⟨rfl, hb1⟩)
          go_roundw
          case rel => exact ⟨k + 1, by omega, by go_num, fun j h h' h'' => by by_cases e : j = k; (subst e; exact Hq.out); exact hp j h h' (by omega), hB.out.trans ((HB2.out _ _).mono (by omega) |>.trans (hb1.mono (by simp; omega)))⟩
          case measure => simp [intOf]; omega
        | false =>
          have Hq := Lib.hid hq
          clear hq
          go_wp2_with (go_at_call 42; refine (HI.out _ (List.getElem_mem hlt) _ D _ _ _ _ _ (HK1.out _ _) (HK2.out _ _)).mono ?_; rw [Hq.out]; rintro e w1 ⟨rfl, hb1⟩)
          go_ret
          exact ⟨by rw [Tm.sameL_false k hlt hlt' Hq.out]; rfl, hB.out.trans ((HB2.out _ _).mono (by omega) |>.trans (hb1.mono (by simp; omega)))⟩
      · obtain rfl : k = l.length := by omega
        go_wp2_with fail
        go_ret
        exact ⟨by rw [Tm.sameL_true Hn.out (fun j h h' => hp j h h' h)]; rfl, hB.out⟩
  · have hn' : (l.length != r.length) = true := by simp [hn]
    have hn2 : ((l.length : Int) != (r.length : Int)) = true := by simp; omega
    have hv : Hid (Tm.sameL l r = false) := Tm.sameL_len hn
    clear hn
    go_enter Tryd.func64, Tryd.ntmps64
    go_wp2_with fail
    go_ret
    exact ⟨by rw [hv.out]; rfl, Below.refl _ _⟩

set_option maxHeartbeats 400000 in
theorem same_any : ∀ t, SameAt t := by
  intro t
  induction t using Tm.ind with
  | h f l ih =>
  intro u D w A B c c' hK hK'
  cases u with
  | mk g r =>
  obtain ⟨A', cap', e, hS⟩ := hK.open_
  simp only [Tm.hd, Tm.args, List.cons.injEq, Value.slice.injEq, and_true, true_and] at e
  obtain ⟨rfl, rfl⟩ := e
  obtain ⟨A', cap', e, hS'⟩ := hK'.open_
  simp only [Tm.hd, Tm.args, List.cons.injEq, Value.slice.injEq, and_true, true_and] at e
  obtain ⟨rfl, rfl⟩ := e
  have HI := Lib.hid ih
  have HS := Lib.hid (fun o1 o2 => hS.below (((Below.refl _ w).alloc (Nat.le_refl _) o1).alloc (by simp) o2))
  have HS' := Lib.hid (fun o1 o2 => hS'.below (((Below.refl _ w).alloc (Nat.le_refl _) o1).alloc (by simp) o2))
  have HB2 := Lib.hid (fun o1 o2 => ((Below.refl w.heap.size w).alloc (Nat.le_refl _) o1).alloc (by simp) o2)
  have hv : Hid ((Tm.mk f l).same (.mk g r) = (f == g && Tm.sameL l r)) := Tm.same_mk f g l r
  clear ih hS hS' hK hK'
  simp only [Tm.hd, Tm.args]
  by_cases hfg : f = g
  · have h1 : (f == g) = true := by simpa using hfg
    have h2 : Hid (f = g) := hfg
    clear hfg
    go_enter Tryd.func42, Tryd.ntmps42
    go_wp2_with (go_at_call 64; refine (equalFunc_terms l r HI.out D _ _ _ _ _ (HS.out _ _) (HS'.out _ _)).mono ?_; rintro e w1 ⟨rfl, hb1⟩)
    go_ret
    exact ⟨by rw [hv.out, h2.out]; simp, (HB2.out _ _).trans (hb1.mono (by simp; omega))⟩
  · have h1 : (f == g) = false := by simpa using hfg
    clear hfg
    go_enter Tryd.func42, Tryd.ntmps42
    go_wp2_with fail
    go_ret
    exact ⟨by rw [hv.out, h1]; rfl, HB2.out _ _⟩
end Go.Proofs.YtkgkdfhipgjobaaDoor
