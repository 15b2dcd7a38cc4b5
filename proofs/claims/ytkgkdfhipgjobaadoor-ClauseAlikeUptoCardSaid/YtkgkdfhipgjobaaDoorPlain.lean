/- match.plain. -/
import Derived.Test.YtkgkdfhipgjobaaDoorRef02
namespace Go.Proofs.YtkgkdfhipgjobaaDoor
open Go.RowKit
set_option linter.unusedVariables false
set_option linter.unusedSimpArgs false

mutual
def Tm.plain : Tm → Bool
  | .mk f l => if f < 0 ∧ 0 < l.length then false else Tm.plains l
def Tm.plains : List Tm → Bool
  | [] => true
  | t :: r => if Tm.plain t then Tm.plains r else false
end
theorem Tm.plain_mk (f : Int) (l : List Tm) : (Tm.mk f l).plain = if f < 0 ∧ 0 < l.length then false else Tm.plains l := by rw [Tm.plain]
theorem Tm.plains_false {l : List Tm} (i : Nat) (h : i < l.length) (hp : l[i].plain = false) : Tm.plains l = false := by
  induction l generalizing i with
  | nil => simp at h
  | cons t r ih =>
    cases i with
    | zero => rw [Tm.plains]; rw [List.getElem_cons_zero] at hp; simp [hp]
    | succ i =>
      rw [List.getElem_cons_succ] at hp; rw [Tm.plains]; split
      · exact ih i (by simpa using h) hp
      · rfl
theorem Tm.plains_true {l : List Tm} (h : ∀ i (h : i < l.length), l[i].plain = true) : Tm.plains l = true := by
  induction l with
  | nil => rfl
  | cons t r ih => rw [Tm.plains, if_pos (show t.plain = true from h 0 (by simp)), ih (fun i hi => h (i + 1) (by simpa using hi))]

set_option maxHeartbeats 400000 in
theorem plain_any : ∀ (t : Tm) (D : Nat → Prop) (w : World) (b o : Nat) (cs : List Value), Tm.K D w t cs → CellsAt w b o cs →
    Calls Tryd.prog 114 #[.pointer (some ⟨b, o, none⟩)] w fun e w' => e = .returned (.bool t.plain) ∧ w = w' := by
  intro t
  induction t using Tm.ind with
  | h f l ih =>
  intro D w b o cs hK hC
  obtain ⟨A, cap, rfl, hS⟩ := hK.open_
  have h0 := hC.c0
  have h1 := hC.c1
  have hle : l.length ≤ 9223372036854775807 := Nat.le_trans hS.le hS.mx
  have hcap : cap ≤ 9223372036854775807 := hS.mx
  have hle2 := hS.le
  have HI := Lib.hid ih
  have HS := Lib.hid hS
  clear ih hS hK hC
  by_cases hf : f < 0 ∧ 0 < l.length
  · have hd1 : decide (f < 0) = true := by simpa using hf.1
    have hd2 : decide (0 < l.length) = true := by simpa using hf.2
    have hv : Hid (Tm.plain (.mk f l) = false) := by show _ = _; rw [Tm.plain_mk, if_pos hf]
    clear hf
    go_enter Tryd.func114, Tryd.ntmps114
    go_wp2_with fail
    go_ret
    exact ⟨by rw [hv.out]; rfl, rfl⟩
  · have hv : Hid (Tm.plain (.mk f l) = Tm.plains l) := by show _ = _; rw [Tm.plain_mk, if_neg hf]
    have hf' : f < 0 → decide (0 < l.length) = false := fun h => by simp; exact List.eq_nil_of_length_eq_zero (by omega)
    clear hf
    by_cases h3 : f < 0
    all_goals
      (first | replace hf' := hf' h3 | clear hf')
      go_enter Tryd.func114, Tryd.ntmps114
      go_wp2_with fail
      go_loop [22] (fun i => ∃ k : Nat, k ≤ l.length ∧ i = .int .i64 k ∧ Hid (∀ j (h : j < l.length), j < k → l[j].plain = true)) (fun i => l.length - (intOf i).toNat)
      case atStart => exact ⟨0, Nat.zero_le _, rfl, fun j h h' => by omega⟩
      case round =>
        obtain ⟨k, hk, rfl, hp⟩ := hrel
        by_cases hlt : k < l.length
        · obtain ⟨b', o', cs', rfl, hb', hK', hC'⟩ := HS.out.get k hlt
          have HC' : Hid (CellsAt w b' (o' + k * 2) cs') := hC'
          have HK' := Lib.hid hK'
          clear hK' hC'
          cases hq : l[k].plain with
          | true =>
            have Hq := Lib.hid hq
            clear hq
            go_wp2_with (go_at_call 114; refine (HI.out _ (List.getElem_mem hlt) D _ _ _ _ HK'.out HC'.out).mono ?_; rw [Hq.out]; rintro e w' ⟨rfl, rfl⟩)
            go_round
            case rel => exact ⟨k + 1, by omega, by go_num, fun j h h' => by by_cases e : j = k; (subst e; exact Hq.out); exact hp j h (by omega)⟩
            case measure => simp [intOf]; omega
          | false =>
            have Hq := Lib.hid hq
            clear hq
            go_wp2_with (go_at_call 114; refine (HI.out _ (List.getElem_mem hlt) D _ _ _ _ HK'.out HC'.out).mono ?_; rw [Hq.out]; rintro e w' ⟨rfl, rfl⟩)
            go_ret
            exact ⟨by rw [hv.out, Tm.plains_false k hlt Hq.out]; rfl, rfl⟩
        · obtain rfl : k = l.length := by omega
          go_wp2_with fail
          go_ret
          exact ⟨by rw [hv.out, Tm.plains_true (fun j h => hp j h h)]; rfl, rfl⟩
end Go.Proofs.YtkgkdfhipgjobaaDoor
