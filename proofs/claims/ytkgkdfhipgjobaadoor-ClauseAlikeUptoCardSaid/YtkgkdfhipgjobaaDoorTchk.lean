/- term.Check: what it answers. -/
import Derived.Test.YtkgkdfhipgjobaaDoorEach
import Derived.Test.YtkgkdfhipgjobaaDoorDown
import Derived.Test.YtkgkdfhipgjobaaDoorSigc
namespace Go.Proofs.YtkgkdfhipgjobaaDoor
open Go.RowKit
set_option linter.unusedVariables false
set_option linter.unusedSimpArgs false
attribute [local go_sem ↓] Go.wp_at_zero Go.wp_at_succ

/-- Does a part of a term fit a signature (top: it is the term itself)? -/
def fitB (l : List Sy) (top : Bool) (x : Tm) : Bool := if x.hd < 0 then true else match l[x.hd.toNat]? with
  | none => false
  | some s => s.arity == (x.args.length : Int) && (top || !s.pred)
def chkStep (l : List Sy) (x : Tm) (top : Bool) : Bool × Bool := (fitB l top x, false)
def termE (l : List Sy) (t : Tm) : Int := if signE l ≠ 0 then 2 else if t.smallB 48 = false then 2 else if (t.eachF (chkStep l) true).1 then 0 else 2
/-- The closure's surroundings. -/
def ChkInv (l : List Sy) (Ds : Nat → Prop) (bt bs cs : Nat) (As : Option Addr) (top : Bool) (W : World) : Prop :=
  W.heap[bt]? = some (.cells #[.bool top] 4 (0, 0)) ∧ W.cell? ⟨bs, 0, none⟩ = some (.slice As l.length cs) ∧ Sy.rd.Sl Ds W As cs l
theorem chk_ent : Ent Tryd.prog 69 := ent_of Tryd.func69 (by kernel_rfl) rfl

set_option maxRecDepth 100000 in
set_option maxHeartbeats 2000000 in
theorem chk1_any (l : List Sy) (D Ds : Nat → Prop) (bt bs cs : Nat) (As : Option Addr) (hD : ∀ k, D k → k ≠ bt) (hDs : ∀ k, Ds k → k ≠ bt) (hbs : bs ≠ bt) (x : Tm) :
    DoAt (chkStep l) (ChkInv l Ds bt bs cs As) (· = bt) D 69 #[.pointer (some ⟨bt, 0, none⟩), .pointer (some ⟨bs, 0, none⟩)] x := by
  intro w b o top A c hI hDb hK h0 h1
  show Calls _ _ #[.pointer (some ⟨b, o, none⟩), .pointer (some ⟨bt, 0, none⟩), .pointer (some ⟨bs, 0, none⟩)] _ _
  obtain ⟨hit, his, hiS⟩ := hI
  have hbt : b ≠ bt := hD b hDb
  have g0 : w.cell? ⟨bt, 0, none⟩ = some (.bool top) := by rw [blk_cell hit]; rfl
  have f0 := blk_frozen hit 0
  have z0 : (w.setCell ⟨bt, 0, none⟩ (.bool false)).cell? ⟨b, o, none⟩ = some (.int .i64 x.hd) := cell_far1 h0 hbt
  have z1 : (w.setCell ⟨bt, 0, none⟩ (.bool false)).cell? ⟨b, o + 1, none⟩ = some (.slice A x.args.length c) := cell_far1 h1 hbt
  have zs : (w.setCell ⟨bt, 0, none⟩ (.bool false)).cell? ⟨bs, 0, none⟩ = some (.slice As l.length cs) := cell_far1 his hbs
  have hcap : x.args.length ≤ 9223372036854775807 := by
    obtain ⟨A', cap', e, hS⟩ := (by cases x with | mk f l => exact hK.open_ : ∃ A' cap', [Value.int .i64 x.hd, .slice A x.args.length c] = [.int .i64 x.hd, .slice A' x.args.length cap'] ∧ Tm.rd.Sl D w A' cap' x.args)
    exact Nat.le_trans hS.le hS.mx
  have hls : l.length ≤ 9223372036854775807 := Nat.le_trans hiS.le hiS.mx
  have hls2 := hiS.le
  have hls3 : cs ≤ 9223372036854775807 := hiS.mx
  have HC1 := (Chg.refl (· = bt) w).setCell (p := ⟨bt, 0, none⟩) (fun _ => rfl) (.bool false)
  have HIn : ∀ q, ChkInv l Ds bt bs cs As false ((w.setCell ⟨bt, 0, none⟩ (.bool false)).drewN q) := fun q => ⟨blk_set hit 0 _, zs, (hiS.chg HC1 hDs).stay (fun _ _ _ => rfl) (fun _ h => h)⟩
  have hpost : Hid (∀ e q, e = .returned (.bool (fitB l top x)) → EachPost (ChkInv l Ds bt bs cs As) (· = bt) (chkStep l x top) w e ((w.setCell ⟨bt, 0, none⟩ (.bool false)).drewN q)) := Lib.hid (fun e q he => by
    subst he
    exact ⟨rfl, HIn q, ⟨HC1.os, HC1.tape, HC1.output, HC1.size, HC1.block⟩⟩)
  have HS := Lib.hid (hiS.chg HC1 hDs)
  have h00 := h0
  clear hit his hiS HC1 HIn hK
  by_cases hneg : x.hd < 0
  · have d0 : decide (x.hd < 0) = true := by simpa using hneg
    have hv : Hid (fitB l top x = true) := Lib.hid (by unfold fitB; rw [if_pos hneg])
    clear hneg
    go_enter Tryd.func69, Tryd.ntmps69
    go_wp2_with fail
    go_ret
    exact hpost.out _ 0 (by rw [hv.out]; rfl)
  · have d0 : decide (x.hd < 0) = false := by simpa using hneg
    obtain ⟨i, hi⟩ : ∃ i : Nat, x.hd = (i : Int) := ⟨x.hd.toNat, by omega⟩
    rw [hi] at z0 h00 d0
    by_cases hil : i < l.length
    · obtain ⟨b', o', rfl, hDb', s0, s1, s2⟩ := Sy.get_ HS.out i hil
      have hget : l[x.hd.toNat]? = some l[i] := by rw [hi]; simp [hil]
      have d1 : decide ((i : Int) < (l.length : Int)) = true := decide_eq_true (by omega)
      have hi0 : (0 : Int) ≤ (i : Int) := by omega
      have hil' : (i : Int) < (l.length : Int) := by omega
      by_cases ha : l[i].arity = (x.args.length : Int)
      · have d2 : (l[i].arity == (x.args.length : Int)) = true := by simpa using ha
        cases top with
        | true =>
          have hv : Hid (fitB l true x = true) := Lib.hid (by unfold fitB; rw [if_neg hneg, hget]; simp [d2])
          clear ha hget
          have Hi := Lib.hid hi
          clear hneg hi h0
          go_enter Tryd.func69, Tryd.ntmps69
          go_wp2_with fail
          go_quiet (fail)
          go_wp2_with fail
          go_ret
          exact hpost.out _ _ (by rw [hv.out]; rfl)
        | false =>
          cases hp : l[i].pred with
          | true =>
            have hv : Hid (fitB l false x = false) := Lib.hid (by unfold fitB; rw [if_neg hneg, hget]; simp [hp])
            rw [hp] at s2
            clear ha hget hp
            have Hi := Lib.hid hi
            clear hneg hi h0
            go_enter Tryd.func69, Tryd.ntmps69
            go_wp2_with fail
            go_quiet (fail)
            go_wp2_with fail
            go_ret
            exact hpost.out _ _ (by rw [hv.out]; rfl)
          | false =>
            have hv : Hid (fitB l false x = true) := Lib.hid (by unfold fitB; rw [if_neg hneg, hget]; simp [hp, d2])
            rw [hp] at s2
            clear ha hget hp
            have Hi := Lib.hid hi
            clear hneg hi h0
            go_enter Tryd.func69, Tryd.ntmps69
            go_wp2_with fail
            go_quiet (fail)
            go_wp2_with fail
            go_ret
            exact hpost.out _ _ (by rw [hv.out]; rfl)
      · have d2 : (l[i].arity == (x.args.length : Int)) = false := by simpa using ha
        have hv : Hid (fitB l top x = false) := Lib.hid (by unfold fitB; rw [if_neg hneg, hget]; simp [d2])
        clear ha hget
        have Hi := Lib.hid hi
        clear hneg hi h0
        go_enter Tryd.func69, Tryd.ntmps69
        go_wp2_with fail
        go_quiet (fail)
        go_wp2_with fail
        go_ret
        exact hpost.out _ _ (by rw [hv.out]; rfl)
    · have d1 : decide ((i : Int) < (l.length : Int)) = false := decide_eq_false (by omega)
      have hv : Hid (fitB l top x = false) := Lib.hid (by unfold fitB; rw [if_neg hneg, hi]; simp [hil])
      have d1' : decide (i < l.length) = false := decide_eq_false hil
      clear hil
      have Hi := Lib.hid hi
      clear hneg hi h0
      go_enter Tryd.func69, Tryd.ntmps69
      go_wp2_with fail
      go_quiet (fail)
      go_wp2_with fail
      go_ret
      exact hpost.out _ _ (by rw [hv.out]; rfl)

theorem all_of {P : Tm → Prop} (h : ∀ x, P x) (t : Tm) : t.All P := by
  induction t using Tm.ind with
  | h f l ih => exact .mk f l (h _) ih
set_option maxRecDepth 100000 in
set_option maxHeartbeats 2000000 in
theorem term_Check (l : List Sy) (t : Tm) (D : Nat → Prop) (w : World) (As At : Option Addr) (cs ct : Nat) (hS : Sy.rd.Sl D w As cs l) (hK : Tm.K D w t [.int .i64 t.hd, .slice At t.args.length ct]) :
    Calls Tryd.prog 45 #[.agg #[.slice As l.length cs], .agg #[.int .i64 t.hd, .slice At t.args.length ct]] w fun e w' => e = .returned (.int .i64 (termE l t)) ∧ Below w.heap.size w w' := by
  have HC := Lib.hid (fun W hb => sign_Check l D W As cs (Rd.Sl.below (w' := W) hS hb))
  have HT := Lib.hid (fun W hb => term_Small 48 (by omega) (by omega) t D W At ct (Rd.below (d := Tm.rd) (w' := W) hK hb))
  have B2 := Lib.hid (fun o0 o1 => ((Below.refl w.heap.size w).alloc (Nat.le_refl _) o0).alloc (by simp) o1)
  obtain ⟨e1, he1⟩ : ∃ e1, signE l = e1 := ⟨_, rfl⟩
  rw [he1] at HC
  by_cases h0 : e1 = 0
  · subst h0
    cases hs : t.smallB 48 with
    | false =>
      rw [hs] at HT
      have hv : Hid (termE l t = 2) := Lib.hid (by unfold termE; rw [if_neg (by rw [he1]; simp), if_pos hs])
      clear he1 hs hS hK
      go_enter Tryd.func45, Tryd.ntmps45
      go_wp2_with fail
      refine (HC.out _ (B2.out _ _)).mono ?_
      rintro e w1 ⟨rfl, hb1⟩
      have hz : w.heap.size + 2 ≤ w1.heap.size := by have := hb1.size; simp at this; omega
      have x0 : w1.cell? ⟨w.heap.size + 1, 0, none⟩ = some (.int .i64 t.hd) := (hb1.cell (by simp)).trans (by simp [go_sem])
      have x1 : w1.cell? ⟨w.heap.size + 1, 1, none⟩ = some (.slice At t.args.length ct) := (hb1.cell (by simp)).trans (by simp [go_sem])
      have HB1 := Lib.hid ((B2.out _ _).trans (hb1.mono (by simp; omega)))
      clear hb1
      go_wp2_with fail
      refine (HT.out _ HB1.out).mono ?_
      rintro e w2 ⟨rfl, hb2⟩
      go_wp2_with fail
      go_ret
      exact ⟨ret_int hv.out.symm, HB1.out.trans (hb2.mono HB1.out.size)⟩
    | true =>
      rw [hs] at HT
      have ent : ∀ (args : Array Value) (w : World), (callFunc 69 args).run Tryd.prog w = .ok (.enter 69 args) w := chk_ent
      obtain ⟨r, s', hr⟩ : ∃ r s', t.eachF (chkStep l) true = (r, s') := ⟨_, _, rfl⟩
      have hv : Hid (termE l t = if r then 0 else 2) := Lib.hid (by unfold termE; rw [if_neg (by rw [he1]; simp), if_neg (by rw [hs]; simp), hr])
      have HE : Hid (∀ W bt, w.heap.size + 1 < bt → W.heap[bt]? = some (.cells #[.bool true] 4 (0, 0)) → Below w.heap.size w W → W.cell? ⟨w.heap.size, 0, none⟩ = some (.slice As l.length cs) → W.cell? ⟨w.heap.size + 1, 0, none⟩ = some (.int .i64 t.hd) → W.cell? ⟨w.heap.size + 1, 1, none⟩ = some (.slice At t.args.length ct) →
          Calls Tryd.prog 68 #[.pointer (some ⟨w.heap.size + 1, 0, none⟩), .func (.func 69) #[] #[.pointer (some ⟨bt, 0, none⟩), .pointer (some ⟨w.heap.size, 0, none⟩)]] W fun e W' => e = .returned (.bool r) ∧ Chg (· = bt) W W') := Lib.hid (fun W bt hbt h1 h2 h3 h4 h5 => by
        have h := each_any (chkStep l) (ChkInv l (fun k => D k ∧ k < w.heap.size) bt w.heap.size cs As) (· = bt) (fun k => (D k ∧ k < w.heap.size) ∨ k = w.heap.size + 1) 69 #[.pointer (some ⟨bt, 0, none⟩), .pointer (some ⟨w.heap.size, 0, none⟩)] chk_ent (fun k hk => by rcases hk with hk | hk <;> omega) t
          (all_of (fun x => chk1_any l _ _ bt w.heap.size cs As (fun k hk => by rcases hk with hk | hk <;> omega) (fun k hk => by omega) (by omega) x) t)
          W (w.heap.size + 1) 0 true At ct ⟨h1, h3, (hS.bound).below h2⟩ (.inr rfl) (Tm.K.mono (fun k hk => .inl hk) (Rd.below (d := Tm.rd) hK.bound h2)) h4 h5
        refine h.mono (fun e W' hp => ?_)
        unfold EachPost at hp
        rw [hr] at hp
        exact ⟨hp.1, hp.2.2⟩)
      clear he1 hs hS hK hr
      go_enter Tryd.func45, Tryd.ntmps45
      go_wp2_with fail
      refine (HC.out _ (B2.out _ _)).mono ?_
      rintro e w1 ⟨rfl, hb1⟩
      have hz : w.heap.size + 2 ≤ w1.heap.size := by have := hb1.size; simp at this; omega
      have y0 : w1.cell? ⟨w.heap.size, 0, none⟩ = some (.slice As l.length cs) := (hb1.cell (by simp; omega)).trans (by simp [go_sem])
      have x0 : w1.cell? ⟨w.heap.size + 1, 0, none⟩ = some (.int .i64 t.hd) := (hb1.cell (by simp)).trans (by simp [go_sem])
      have x1 : w1.cell? ⟨w.heap.size + 1, 1, none⟩ = some (.slice At t.args.length ct) := (hb1.cell (by simp)).trans (by simp [go_sem])
      have HB1 := Lib.hid ((B2.out _ _).trans (hb1.mono (by simp; omega)))
      clear hb1
      go_wp2_with fail
      refine (HT.out _ HB1.out).mono ?_
      rintro e w2 ⟨rfl, hb2⟩
      have hz2 := hb2.size
      have HY := Lib.hid (And.intro ((hb2.cell (p := ⟨w.heap.size, 0, none⟩) (by simp; omega)).trans y0) (And.intro ((hb2.cell (p := ⟨w.heap.size + 1, 0, none⟩) (by simp; omega)).trans x0) ((hb2.cell (p := ⟨w.heap.size + 1, 1, none⟩) (by simp; omega)).trans x1)))
      have HB2 := Lib.hid (HB1.out.trans (hb2.mono HB1.out.size))
      clear hb2 x0 x1 y0
      go_wp2_with fail
      refine Calls.mono (HE.out _ _ ?_ (blk_alloc_new _ _) (HB2.out.alloc HB2.out.size _) (cell_new HY.out.1 _) (cell_new HY.out.2.1 _) (cell_new HY.out.2.2 _)) ?_
      · omega
      rintro e w5 ⟨rfl, hc⟩
      have HB5 := Lib.hid ((HB2.out.alloc HB2.out.size _).trans (hc.below (B := w.heap.size) (by intro k hk; subst hk; omega) (by simp; omega)))
      clear hc
      cases r with
      | true =>
        go_wp2_with fail
        go_ret
        exact ⟨ret_int hv.out.symm, HB5.out⟩
      | false =>
        go_wp2_with fail
        go_ret
        exact ⟨ret_int hv.out.symm, HB5.out⟩
  · have hne0 : (e1 != 0) = true := by simpa using h0
    have hv : Hid (termE l t = 2) := Lib.hid (by unfold termE; rw [if_pos (by rw [he1]; exact h0)])
    clear he1 h0 hS hK HT
    go_enter Tryd.func45, Tryd.ntmps45
    go_wp2_with fail
    refine (HC.out _ (B2.out _ _)).mono ?_
    rintro e w1 ⟨rfl, hb1⟩
    go_wp2_with fail
    go_ret
    exact ⟨ret_int hv.out.symm, (B2.out _ _).trans (hb1.mono (by simp; omega))⟩
end Go.Proofs.YtkgkdfhipgjobaaDoor
