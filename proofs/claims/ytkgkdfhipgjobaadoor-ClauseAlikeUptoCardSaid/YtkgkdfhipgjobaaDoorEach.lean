/- term.each by a function value: a fold over a term's parts. -/
import Derived.Test.YtkgkdfhipgjobaaDoorRef02
import Derived.Deep.RegionHeld3
import Derived.Deep.DrawnRows
import Derived.Deep.DeepCutAuto
namespace Go.Proofs.YtkgkdfhipgjobaaDoor
open Go.RowKit
set_option linter.unusedVariables false
set_option linter.unusedSimpArgs false
attribute [local go_sem ↓] Go.wp_at_zero Go.wp_at_succ

section
variable {σ : Type} (step : Tm → σ → Bool × σ)
mutual
def Tm.eachF (s : σ) : Tm → Bool × σ
  | .mk f l => if (step (.mk f l) s).1 then Tm.eachL (step (.mk f l) s).2 l else (false, (step (.mk f l) s).2)
def Tm.eachL (s : σ) : List Tm → Bool × σ
  | [] => (true, s)
  | t :: r => if (Tm.eachF s t).1 then Tm.eachL (Tm.eachF s t).2 r else (false, (Tm.eachF s t).2)
end
theorem Tm.eachF_mk (s : σ) (f : Int) (l : List Tm) : (Tm.mk f l).eachF step s = if (step (.mk f l) s).1 then Tm.eachL step (step (.mk f l) s).2 l else (false, (step (.mk f l) s).2) := by rw [Tm.eachF]
end
/-- What a call of the function value, or of each, leaves. -/
def EachPost {σ : Type} (Inv : σ → World → Prop) (M : Nat → Prop) (r : Bool × σ) (w : World) (e : Ending) (w' : World) : Prop :=
  e = .returned (.bool r.1) ∧ Inv r.2 w' ∧ Chg M w w'
/-- A function value that folds. -/
def DoAt {σ : Type} (step : Tm → σ → Bool × σ) (Inv : σ → World → Prop) (M D : Nat → Prop) (g : Nat) (lb : Array Value) (x : Tm) : Prop :=
  ∀ (W : World) (b o : Nat) (s : σ) (A : Option Addr) (c : Nat), Inv s W → D b → Tm.K D W x [.int .i64 x.hd, .slice A x.args.length c] → W.cell? ⟨b, o, none⟩ = some (.int .i64 x.hd) → W.cell? ⟨b, o + 1, none⟩ = some (.slice A x.args.length c) →
    Calls Tryd.prog g (#[.pointer (some ⟨b, o, none⟩)] ++ lb) W (EachPost Inv M (step x s) W)
/-- Of a term and all its parts. -/
inductive Tm.All (P : Tm → Prop) : Tm → Prop
  | mk (f : Int) (l : List Tm) (h : P (.mk f l)) (k : ∀ t ∈ l, Tm.All P t) : Tm.All P (.mk f l)

set_option maxRecDepth 100000 in
set_option maxHeartbeats 1000000 in
theorem each_any {σ : Type} (step : Tm → σ → Bool × σ) (Inv : σ → World → Prop) (M D : Nat → Prop) (g : Nat) (lb : Array Value) (hent : Ent Tryd.prog g) (hMD : ∀ k, D k → ¬ M k) : ∀ (t : Tm), t.All (DoAt step Inv M D g lb) → 
    ∀ (w : World) (b o : Nat) (s : σ) (A : Option Addr) (c : Nat), Inv s w → D b → Tm.K D w t [.int .i64 t.hd, .slice A t.args.length c] → w.cell? ⟨b, o, none⟩ = some (.int .i64 t.hd) → w.cell? ⟨b, o + 1, none⟩ = some (.slice A t.args.length c) →
    Calls Tryd.prog 68 #[.pointer (some ⟨b, o, none⟩), .func (.func g) #[] lb] w (EachPost Inv M (t.eachF step s) w) := by
  intro t
  induction t using Tm.ind with
  | h f l ih =>
  intro hdo w b o s A c hI hDb hK h0 h1
  have hdo' : DoAt step Inv M D g lb (.mk f l) ∧ ∀ t ∈ l, t.All (DoAt step Inv M D g lb) := by cases hdo with | mk f l h k => exact ⟨h, k⟩
  obtain ⟨A', cap', e, hS⟩ := hK.open_
  simp only [Tm.hd, Tm.args, List.cons.injEq, Value.slice.injEq, and_true, true_and] at e
  obtain ⟨rfl, rfl⟩ := e
  have HI := Lib.hid ih
  have HS := Lib.hid hS
  have HM := Lib.hid hMD
  have HDk := Lib.hid hdo'.2
  have HD0 := Lib.hid (hdo'.1 w b o s A c hI hDb hK h0 h1)
  simp only [Tm.hd, Tm.args] at h0 h1
  have ent : ∀ (args : Array Value) (w : World), (callFunc g args).run Tryd.prog w = .ok (.enter g args) w := hent
  have hle : l.length ≤ 9223372036854775807 := Nat.le_trans hS.le hS.mx
  have hcap : c ≤ 9223372036854775807 := hS.mx
  have hle2 := hS.le
  have hbM := hMD b hDb
  have hbl := World.block_lt_of_cell? _ _ h0
  simp only at hbl
  obtain ⟨r0, s0, hr0⟩ : ∃ r0 s0, step (.mk f l) s = (r0, s0) := ⟨_, _, rfl⟩
  have hfin : (Tm.mk f l).eachF step s = if r0 then Tm.eachL step s0 l else (false, s0) := by rw [Tm.eachF_mk, hr0]
  have HP : Hid (∀ e w', EachPost Inv M (step (.mk f l) s) w e w' → e = .returned (.bool r0) ∧ Inv s0 w' ∧ Chg M w w') := Lib.hid (fun e w' h => by rw [hr0] at h; exact h)
  have HFin := Lib.hid hfin
  clear ih hS hMD hdo hdo' hK hr0 hfin hent hI
  cases r0 with
  | false =>
    have hv : Hid ((Tm.mk f l).eachF step s = (false, s0)) := Lib.hid (by rw [HFin.out]; rfl)
    go_enter Tryd.func68, Tryd.ntmps68
    go_wp2_with fail
    refine Calls.mono HD0.out ?_
    intro e w1 hp
    obtain ⟨rfl, hi1, hc1⟩ := HP.out _ _ hp
    have HF := Lib.hid (And.intro hi1 hc1)
    clear hp hi1 hc1
    go_wp2_with fail
    go_ret
    unfold EachPost
    rw [hv.out]
    exact ⟨rfl, HF.out⟩
  | true =>
    have hv : Hid ((Tm.mk f l).eachF step s = Tm.eachL step s0 l) := Lib.hid (by rw [HFin.out]; rfl)
    go_enter Tryd.func68, Tryd.ntmps68
    go_wp2_with fail
    refine Calls.mono HD0.out ?_
    intro e w1 hp
    obtain ⟨rfl, hi1, hc1⟩ := HP.out _ _ hp
    have y1 : w1.cell? ⟨b, o + 1, none⟩ = some (.slice A l.length c) := (hc1.cell (p := ⟨b, o + 1, none⟩) hbl hbM).trans h1
    have HF := Lib.hid (And.intro hi1 hc1)
    clear hp hi1 hc1
    go_wp2_with fail
    go_loopw [15] (fun i wr => ∃ (k : Nat) (s' : σ), k ≤ l.length ∧ i = .int .i64 k ∧ Hid (Inv s' wr ∧ Chg M w wr ∧ Tm.eachL step s' (l.drop k) = Tm.eachL step s0 l)) (fun i _ => l.length - (intOf i).toNat)
    case atStart => exact ⟨0, s0, Nat.zero_le _, rfl, Lib.hid ⟨HF.out.1, HF.out.2, rfl⟩⟩
    case round =>
      obtain ⟨k, s', hk, rfl, hR⟩ := hrel
      by_cases hlt : k < l.length
      · have hlss : decide ((k : Int) < (l.length : Int)) = true := by simp; omega
        obtain ⟨b', o', A1, c1, rfl, hDb', hKk, p0, p1⟩ := Tm.get_ (HS.out.chg hR.out.2.1 HM.out) k hlt
        have hdk : l.drop k = l[k] :: l.drop (k + 1) := by rw [List.drop_eq_getElem_cons hlt]
        have HL := Lib.hid (show Tm.eachL step s' (l[k] :: l.drop (k + 1)) = Tm.eachL step s0 l by rw [← hdk]; exact hR.out.2.2)
        have x1 : wr.cell? ⟨b, o + 1, none⟩ = some (.slice (some ⟨b', o', none⟩) l.length c) := (hR.out.2.1.cell (p := ⟨b, o + 1, none⟩) hbl hbM).trans h1
        have HIk := Lib.hid (HI.out l[k] (List.getElem_mem hlt) (HDk.out _ (List.getElem_mem hlt)) wr b' (o' + k * 2) s' A1 c1 hR.out.1 hDb' hKk p0 p1)
        obtain ⟨rt, st, hrt⟩ : ∃ rt st, l[k].eachF step s' = (rt, st) := ⟨_, _, rfl⟩
        have HPk : Hid (∀ e w', EachPost Inv M (l[k].eachF step s') wr e w' → e = .returned (.bool rt) ∧ Inv st w' ∧ Chg M wr w') := Lib.hid (fun e w' h => by rw [hrt] at h; exact h)
        clear hdk hKk p0 p1
        cases rt with
        | true =>
          have HL2 := Lib.hid (show Tm.eachL step st (l.drop (k + 1)) = Tm.eachL step s0 l by rw [← HL.out, Tm.eachL, hrt]; rfl)
          clear hrt
          go_wp2_with fail
          refine Calls.mono HIk.out ?_
          intro e w7 hp7
          obtain ⟨rfl, hi7, hc7⟩ := HPk.out _ _ hp7
          have HF7 := Lib.hid (And.intro hi7 (hR.out.2.1.trans hc7 (fun i hi _ => hi)))
          clear hp7 hi7 hc7
          go_wp2_with fail
          go_roundw
          case rel => exact ⟨k + 1, st, hlt, by go_num, Lib.hid ⟨HF7.out.1, HF7.out.2, HL2.out⟩⟩
          case measure => simp [intOf]; omega
        | false =>
          have HL2 := Lib.hid (show Tm.eachL step s0 l = (false, st) by rw [← HL.out, Tm.eachL, hrt]; rfl)
          clear hrt
          go_wp2_with fail
          refine Calls.mono HIk.out ?_
          intro e w7 hp7
          obtain ⟨rfl, hi7, hc7⟩ := HPk.out _ _ hp7
          have HF7 := Lib.hid (And.intro hi7 (hR.out.2.1.trans hc7 (fun i hi _ => hi)))
          clear hp7 hi7 hc7
          go_wp2_with fail
          go_ret
          unfold EachPost
          rw [hv.out, HL2.out]
          exact ⟨rfl, HF7.out⟩
      · obtain rfl : k = l.length := by omega
        have hlss : decide ((l.length : Int) < (l.length : Int)) = false := by simp
        go_wp2_with fail
        go_ret
        unfold EachPost
        have h2 := hR.out.2.2
        rw [List.drop_length, Tm.eachL] at h2
        rw [hv.out, ← h2]
        exact ⟨rfl, hR.out.1, hR.out.2.1⟩
end Go.Proofs.YtkgkdfhipgjobaaDoor
