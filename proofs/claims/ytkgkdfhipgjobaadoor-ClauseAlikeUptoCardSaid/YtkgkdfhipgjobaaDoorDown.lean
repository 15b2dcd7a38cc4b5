/- term.Small: what it answers. -/
import Derived.Test.YtkgkdfhipgjobaaDoorRef02
import Derived.Deep.RegionHeld3
import Derived.Deep.DrawnRows
import Derived.Deep.QuietTactic
import Derived.BigQuiet
import Derived.Outline
import Derived.Laws.EntriesVeiled
import Derived.IntWalk
import Derived.Deep.DeepCutAuto
namespace Go.Proofs.YtkgkdfhipgjobaaDoor
open Go.RowKit
set_option linter.unusedVariables false
set_option linter.unusedSimpArgs false
attribute [local go_sem ↓] Go.wp_at_zero Go.wp_at_succ

theorem blk_at (w : World) (o : Obj) (n : Nat) (hn : n = w.heap.size) : (w.alloc o).heap[n]? = some o := by subst hn; exact blk_alloc_new w o
mutual
def Tm.down (m : Int) (d : Nat) (n : Nat) : Tm → Bool × Nat
  | .mk f l => if 300 < n + 1 ∨ 30 < d ∨ (f < 0 ∧ (f < -m ∨ 0 < l.length)) then (false, n + 1) else Tm.downL m (d + 1) (n + 1) l
def Tm.downL (m : Int) (d : Nat) (n : Nat) : List Tm → Bool × Nat
  | [] => (true, n)
  | t :: r => if (Tm.down m d n t).1 then Tm.downL m d (Tm.down m d n t).2 r else (false, (Tm.down m d n t).2)
end
theorem Tm.down_mk (m : Int) (d n : Nat) (f : Int) (l : List Tm) : (Tm.mk f l).down m d n = if 300 < n + 1 ∨ 30 < d ∨ (f < 0 ∧ (f < -m ∨ 0 < l.length)) then (false, n + 1) else Tm.downL m (d + 1) (n + 1) l := by rw [Tm.down]
theorem Tm.depth_mk' (f : Int) (l : List Tm) : (Tm.mk f l).depth = 1 + Tm.depthL l := by rw [Tm.depth, Nat.add_comm]
theorem depthL_le {l : List Tm} (k : Nat) : Tm.depthL l ≤ k ↔ ∀ t ∈ l, t.depth ≤ k := by
  induction l with
  | nil => simp [Tm.depthL]
  | cons t r ih =>
    rw [Tm.depthL]
    simp only [List.forall_mem_cons, ← ih]
    omega
/-- What it answers. -/
theorem Tm.down_law (m : Int) : ∀ (t : Tm) (d n : Nat), 1 ≤ d → (t.down m d n = (true, n + t.nodes) ∧ n + t.nodes ≤ 300 ∧ d + t.depth ≤ 31 ∧ t.low m = true) ∨ ((t.down m d n).1 = false ∧ ¬ (n + t.nodes ≤ 300 ∧ d + t.depth ≤ 31 ∧ t.low m = true)) := by
  intro t
  induction t using Tm.ind with
  | h f l ih =>
    intro d n hd
    rw [Tm.down_mk, Tm.nodes_mk, Tm.depth_mk', Tm.low_mk]
    have key : ∀ (l : List Tm) (d n : Nat), 1 ≤ d → (∀ t ∈ l, ∀ (d n : Nat), 1 ≤ d → (t.down m d n = (true, n + t.nodes) ∧ n + t.nodes ≤ 300 ∧ d + t.depth ≤ 31 ∧ t.low m = true) ∨ ((t.down m d n).1 = false ∧ ¬ (n + t.nodes ≤ 300 ∧ d + t.depth ≤ 31 ∧ t.low m = true))) → n ≤ 300 → d ≤ 31 →
        (Tm.downL m d n l = (true, n + Tm.nodesL l) ∧ n + Tm.nodesL l ≤ 300 ∧ d + Tm.depthL l ≤ 31 ∧ Tm.lowL m l = true) ∨ ((Tm.downL m d n l).1 = false ∧ ¬ (n + Tm.nodesL l ≤ 300 ∧ d + Tm.depthL l ≤ 31 ∧ Tm.lowL m l = true)) := by
      intro l
      induction l with
      | nil => intro d n hd _ hn hd3; left; simp [Tm.downL, Tm.nodesL, Tm.depthL, Tm.lowL]; omega
      | cons t r ihr =>
        intro d n hd hi hn hd3
        rw [Tm.downL, Tm.nodesL, Tm.depthL, Tm.lowL]
        rcases hi t (by simp) d n hd with ⟨h1, h2, h3, h4⟩ | ⟨h1, h2⟩
        · rw [h1]
          simp only [if_true]
          rcases ihr d (n + t.nodes) hd (fun t ht => hi t (by simp [ht])) h2 hd3 with ⟨g1, g2, g3, g4⟩ | ⟨g1, g2⟩
          · left
            refine ⟨by rw [g1, Nat.add_assoc], by omega, by omega, by simp [h4, g4]⟩
          · right
            refine ⟨g1, fun h => g2 ⟨by omega, by omega, ?_⟩⟩
            have := h.2.2
            simpa [h4] using this
        · right
          rw [h1]
          simp only [Bool.false_eq_true, if_false]
          refine ⟨trivial, fun h => h2 ⟨by omega, by omega, ?_⟩⟩
          have := h.2.2
          cases ht : t.low m with
          | true => rfl
          | false => simp [ht] at this
    by_cases hc : 300 < n + 1 ∨ 30 < d ∨ (f < 0 ∧ (f < -m ∨ 0 < l.length))
    · rw [if_pos hc]
      right
      refine ⟨rfl, fun h => ?_⟩
      rcases hc with h1 | h1 | ⟨h1, h2⟩
      · omega
      · omega
      · have h3 := h.2.2
        rw [if_pos h1] at h3
        simp only [Bool.and_eq_true, decide_eq_true_eq, List.isEmpty_iff] at h3
        rcases h2 with h2 | h2
        · omega
        · rw [h3.2] at h2; simp at h2
    · rw [if_neg hc]
      have hd2 : d ≤ 30 := by omega
      rcases key l (d + 1) (n + 1) (by omega) ih (by omega) (by omega) with ⟨g1, g2, g3, g4⟩ | ⟨g1, g2⟩
      · left
        refine ⟨by rw [g1]; congr 1; omega, by omega, by omega, ?_⟩
        by_cases hf : f < 0
        · rw [if_pos hf]
          have : l.length = 0 := by omega
          simp only [Bool.and_eq_true, decide_eq_true_eq, List.isEmpty_iff]
          exact ⟨by omega, List.eq_nil_of_length_eq_zero this⟩
        · rw [if_neg hf]; exact g4
      · right
        refine ⟨g1, fun h => g2 ⟨by omega, by omega, ?_⟩⟩
        by_cases hf : f < 0
        · have : l.length = 0 := by omega
          obtain rfl := List.eq_nil_of_length_eq_zero this
          simp [Tm.lowL]
        · have := h.2.2
          rwa [if_neg hf] at this
theorem Tm.down_small (m : Int) (t : Tm) : (t.down m 1 0).1 = t.smallB m := by
  have h := t.down_law m 1 0 (Nat.le_refl _)
  unfold Tm.smallB
  rcases h with ⟨h1, h2, h3, h4⟩ | ⟨h1, h2⟩
  · rw [h1, h4]
    simp; omega
  · rw [h1]
    symm
    rw [Bool.and_eq_false_iff]
    by_cases a : t.nodes ≤ 300
    · right
      rw [Bool.and_eq_false_iff]
      by_cases b : t.depth ≤ 30
      · right
        cases hl : t.low m with
        | false => rfl
        | true => exact absurd ⟨by omega, by omega, hl⟩ h2
      · left; simpa using b
    · left; simpa using a

theorem Tm.down_le (m : Int) (t : Tm) (d n : Nat) (hd : 1 ≤ d) (h : (t.down m d n).1 = true) : (t.down m d n).2 ≤ 300 := by
  rcases t.down_law m d n hd with ⟨h1, h2, _⟩ | ⟨h1, _⟩
  · rw [h1]; exact h2
  · rw [h] at h1; simp at h1
/-- The closure's surroundings. -/
structure DownW (m : Int) (w : World) (bn bm bf n : Nat) : Prop where
  n : w.heap[bn]? = some (.cells #[.int .i64 n] 3 (0, 0))
  m : w.cell? ⟨bm, 0, none⟩ = some (.int .i64 m)
  f : w.cell? ⟨bf, 0, none⟩ = some (.func (.func 80) #[] #[.pointer (some ⟨bn, 0, none⟩), .pointer (some ⟨bm, 0, none⟩), .pointer (some ⟨bf, 0, none⟩)])
  nm : bm ≠ bn
  nf : bf ≠ bn
theorem DownW.chg {m : Int} {w w' : World} {bn bm bf n n' : Nat} (h : DownW m w bn bm bf n) (hc : Chg (· = bn) w w') (hn : w'.heap[bn]? = some (.cells #[.int .i64 n'] 3 (0, 0))) : DownW m w' bn bm bf n' :=
  ⟨hn, (hc.cell (p := ⟨bm, 0, none⟩) (World.block_lt_of_cell? w _ h.m) h.nm).trans h.m, (hc.cell (p := ⟨bf, 0, none⟩) (World.block_lt_of_cell? w _ h.f) h.nf).trans h.f, h.nm, h.nf⟩
theorem down_ent : Ent Tryd.prog 80 := ent_of Tryd.func80 (by kernel_rfl) rfl
/-- What a call of the closure leaves. -/
def DownPost (m : Int) (t : Tm) (d n bn : Nat) (w : World) (e : Ending) (w' : World) : Prop :=
  e = .returned (.bool (t.down m d n).1) ∧ w'.heap[bn]? = some (.cells #[.int .i64 ((t.down m d n).2 : Nat)] 3 (0, 0)) ∧ Chg (· = bn) w w'

set_option maxRecDepth 100000 in
set_option maxHeartbeats 2000000 in
theorem down_any (m : Int) (hm0 : 0 ≤ m) (hm1 : m ≤ 1000000) : ∀ (t : Tm) (D : Nat → Prop) (w : World) (b o : Nat) (bn bm bf d n : Nat) (A : Option Addr) (c : Nat), 1 ≤ d → d ≤ 31 → n ≤ 300 → DownW m w bn bm bf n → (∀ k, D k → k ≠ bn) → D b →
    Tm.K D w t [.int .i64 t.hd, .slice A t.args.length c] → w.cell? ⟨b, o, none⟩ = some (.int .i64 t.hd) → w.cell? ⟨b, o + 1, none⟩ = some (.slice A t.args.length c) →
    Calls Tryd.prog 80 #[.pointer (some ⟨b, o, none⟩), .int .i64 d, .pointer (some ⟨bn, 0, none⟩), .pointer (some ⟨bm, 0, none⟩), .pointer (some ⟨bf, 0, none⟩)] w (DownPost m t d n bn w) := by
  intro t
  induction t using Tm.ind with
  | h f l ih =>
  intro D w b o bn bm bf d n A c hd1 hd31 hn hW hD hDb hK h0 h1
  obtain ⟨A', cap', e, hS⟩ := hK.open_
  simp only [Tm.hd, Tm.args, List.cons.injEq, Value.slice.injEq, and_true, true_and] at e
  obtain ⟨rfl, rfl⟩ := e
  simp only [Tm.hd, Tm.args] at h0 h1
  have HI := Lib.hid ih
  have HS := Lib.hid hS
  have HDw := Lib.hid hW
  have HD := Lib.hid hD
  have ent : ∀ (args : Array Value) (w : World), (callFunc 80 args).run Tryd.prog w = .ok (.enter 80 args) w := down_ent
  have hle : l.length ≤ 9223372036854775807 := Nat.le_trans hS.le hS.mx
  have hcap : c ≤ 9223372036854775807 := hS.mx
  have hle2 := hS.le
  have hbn : b ≠ bn := hD b hDb
  have gn : w.cell? ⟨bn, 0, none⟩ = some (.int .i64 n) := by rw [blk_cell hW.n]; rfl
  have fn := blk_frozen hW.n 0
  have hbl := World.block_lt_of_cell? _ _ h0
  have hnl := blk_lt hW.n
  simp only at hbl
  have gm := hW.m
  have gf := hW.f
  have hmn := hW.nm
  have hfn := hW.nf
  have hG : w.heap[bn]? = some (.cells #[.int .i64 n] 3 (0, 0)) → (w.setCell ⟨bn, 0, none⟩ (.int .i64 ((n : Int) + 1))).heap[bn]? = some (.cells #[.int .i64 ((n : Int) + 1)] 3 (0, 0)) := fun h => blk_set h 0 _
  have HW1 := Lib.hid (hG hW.n)
  have HC1 := Lib.hid ((Chg.refl (· = bn) w).setCell (p := ⟨bn, 0, none⟩) (fun _ => rfl) (.int .i64 ((n : Int) + 1)))
  clear ih hS hW hD hK hG
  have z0 : (w.setCell ⟨bn, 0, none⟩ (.int .i64 ((n : Int) + 1))).cell? ⟨b, o, none⟩ = some (.int .i64 f) := cell_far1 h0 hbn
  have z1 : (w.setCell ⟨bn, 0, none⟩ (.int .i64 ((n : Int) + 1))).cell? ⟨b, o + 1, none⟩ = some (.slice A l.length c) := cell_far1 h1 hbn
  have zm : (w.setCell ⟨bn, 0, none⟩ (.int .i64 ((n : Int) + 1))).cell? ⟨bm, 0, none⟩ = some (.int .i64 m) := cell_far1 gm hmn
  have zn : (w.setCell ⟨bn, 0, none⟩ (.int .i64 ((n : Int) + 1))).cell? ⟨bn, 0, none⟩ = some (.int .i64 ((n : Int) + 1)) := by rw [blk_cell HW1.out]; rfl
  have hneg : IntKind.i64.wrap (-m) = -m := IntWalk.i64_in _ (by omega)
  clear h0 gm gf
  by_cases hc : 300 < n + 1 ∨ 30 < d ∨ (f < 0 ∧ (f < -m ∨ 0 < l.length))
  · have hpost : Hid (∀ e w', e = .returned (.bool false) → (∃ q, w' = (w.setCell ⟨bn, 0, none⟩ (.int .i64 ((n : Int) + 1))).drewN q) → DownPost m (.mk f l) d n bn w e w') := Lib.hid (fun e w' he hw' => by
      obtain ⟨q, rfl⟩ := hw'
      subst he
      unfold DownPost
      rw [Tm.down_mk, if_pos hc]
      exact ⟨rfl, HW1.out, ⟨HC1.out.os, HC1.out.tape, HC1.out.output, HC1.out.size, HC1.out.block⟩⟩)
    by_cases c1 : 300 < n + 1
    · have d1 : decide ((300 : Int) < (n : Int) + 1) = true := by simp; omega
      clear hc c1 h1
      go_enter Tryd.func80, Tryd.ntmps80
      go_wp2_with fail
      go_quiet (fail)
      go_wp2_with fail
      go_ret
      exact hpost.out _ _ rfl ⟨_, rfl⟩
    · have d1 : decide ((300 : Int) < (n : Int) + 1) = false := by simp; omega
      by_cases c2 : 30 < d
      · have d2 : decide ((30 : Int) < (d : Int)) = true := by simp; omega
        clear hc c2 h1
        go_enter Tryd.func80, Tryd.ntmps80
        go_wp2_with fail
        go_quiet (fail)
        go_wp2_with fail
        go_ret
        exact hpost.out _ _ rfl ⟨_, rfl⟩
      · have d2 : decide ((30 : Int) < (d : Int)) = false := by simp; omega
        have c3 : f < 0 := by omega
        have d3 : decide (f < 0) = true := by simpa using c3
        by_cases c4 : f < -m
        · have d4 : decide (f < -m) = true := by simpa using c4
          clear hc h1
          go_enter Tryd.func80, Tryd.ntmps80
          go_wp2_with fail
          go_quiet (fail)
          go_wp2_with fail
          go_ret
          exact hpost.out _ _ rfl ⟨_, rfl⟩
        · have d4 : decide (f < -m) = false := by simp; omega
          have c5 : 0 < l.length := by omega
          have d5 : decide ((0 : Int) < (l.length : Int)) = true := by simp; omega
          clear hc h1
          go_enter Tryd.func80, Tryd.ntmps80
          go_wp2_with fail
          go_quiet (fail)
          go_wp2_with fail
          go_ret
          exact hpost.out _ _ rfl ⟨_, rfl⟩
  · have Hc := Lib.hid hc
    have d1 : decide ((300 : Int) < (n : Int) + 1) = false := by simp; omega
    have d2 : decide ((30 : Int) < (d : Int)) = false := by simp; omega
    have n1 : n + 1 ≤ 300 := by omega
    have dd : d ≤ 30 := by omega
    have g1 := h1
    by_cases c3 : f < 0
    · have d3 : decide (f < 0) = true := by simpa using c3
      have d4 : decide (f < -m) = false := by simp; omega
      have d5 : decide ((0 : Int) < (l.length : Int)) = false := decide_eq_false (by omega)
      have d6 : decide (0 < l.length) = false := decide_eq_false (by omega)
      clear hc h1
      go_enter Tryd.func80, Tryd.ntmps80
      go_wp2_with fail
      go_quiet (fail)
      obtain ⟨W1, hW1⟩ : ∃ W1, W1 = (w.setCell ⟨bn, 0, none⟩ (.int .i64 ((n : Int) + 1))).drewN nq := ⟨_, rfl⟩
      rw [← hW1]
      have HW2 : Hid (W1.heap[bn]? = some (.cells #[.int .i64 ((n + 1 : Nat) : Int)] 3 (0, 0)) ∧ Chg (· = bn) w W1) := Lib.hid (by rw [hW1]; exact ⟨HW1.out, ⟨HC1.out.os, HC1.out.tape, HC1.out.output, HC1.out.size, HC1.out.block⟩⟩)
      have y1 : W1.cell? ⟨b, o + 1, none⟩ = some (.slice A l.length c) := by rw [hW1]; exact z1
      clear hW1 z0 z1 zm zn
      go_wp2_with fail
      go_loopw [46] (fun i wr => ∃ k n' : Nat, k ≤ l.length ∧ n' ≤ 300 ∧ i = .int .i64 k ∧ Hid (wr.heap[bn]? = some (.cells #[.int .i64 n'] 3 (0, 0)) ∧ Chg (· = bn) w wr ∧ Tm.downL m (d + 1) n' (l.drop k) = Tm.downL m (d + 1) (n + 1) l))
        (fun i _ => l.length - (intOf i).toNat)
      case atStart => exact ⟨0, n + 1, Nat.zero_le _, by omega, rfl, Lib.hid ⟨HW2.out.1, HW2.out.2, rfl⟩⟩
      case round =>
        obtain ⟨k, n', hk, hn', rfl, hR⟩ := hrel
        by_cases hlt : k < l.length
        · have hlss : decide ((k : Int) < (l.length : Int)) = true := by simp; omega
          obtain ⟨b', o', A1, c1, rfl, hDb', hKk, p0, p1⟩ := Tm.get_ (HS.out.chg hR.out.2.1 HD.out) k hlt
          have hdk : l.drop k = l[k] :: l.drop (k + 1) := by rw [List.drop_eq_getElem_cons hlt]
          have HL := Lib.hid (show Tm.downL m (d + 1) n' (l[k] :: l.drop (k + 1)) = Tm.downL m (d + 1) (n + 1) l by rw [← hdk]; exact hR.out.2.2)
          have hWr := HDw.out.chg hR.out.2.1 hR.out.1
          have x1 : wr.cell? ⟨b, o + 1, none⟩ = some (.slice (some ⟨b', o', none⟩) l.length c) := (hR.out.2.1.cell (p := ⟨b, o + 1, none⟩) hbl hbn).trans g1
          have x2 := hWr.f
          have hbf := World.block_lt_of_cell? _ _ x2
          have hbw := World.block_lt_of_cell? _ _ x1
          simp only at hbf hbw
          have HIk := Lib.hid (HI.out l[k] (List.getElem_mem hlt) D wr.drew b' (o' + k * 2) bn bm bf (d + 1) n' A1 c1 (by omega) (by omega) hn' ⟨hWr.n, hWr.m, hWr.f, hWr.nm, hWr.nf⟩ HD.out hDb' (Tm.K.keep (w := wr) (w' := wr.drew) (fun _ _ => rfl) hKk) p0 p1)
          obtain ⟨rt, nt, hrt⟩ : ∃ rt nt, l[k].down m (d + 1) n' = (rt, nt) := ⟨_, _, rfl⟩
          have hnt := Tm.down_le m l[k] (d + 1) n' (by omega)
          have HP : Hid (∀ e w', DownPost m l[k] (d + 1) n' bn wr.drew e w' → e = .returned (.bool rt) ∧ w'.heap[bn]? = some (.cells #[.int .i64 nt] 3 (0, 0)) ∧ Chg (· = bn) wr.drew w') := Lib.hid (fun e w' h => by unfold DownPost at h; rw [hrt] at h; exact h)
          have hwd : IntKind.i64.wrap ((d : Int) + 1) = (d : Int) + 1 := IntWalk.i64_in _ (by omega)
          have ec : ((d + 1 : Nat) : Int) = (d : Int) + 1 := by omega
          rw [ec] at HIk
          rw [hrt] at hnt
          have hle3 : l.length ≤ 9223372036854775807 := hle
          have hkc : (0 : Int) ≤ (k : Int) := by omega
          have hkl : (k : Int) < (l.length : Int) := by omega
          have HWr := Lib.hid hWr
          clear hdk hKk p0 p1 ec hWr
          cases rt with
          | true =>
            have HL2 := Lib.hid (show Tm.downL m (d + 1) nt (l.drop (k + 1)) = Tm.downL m (d + 1) (n + 1) l by rw [← HL.out, Tm.downL, hrt]; rfl)
            have hnt2 := hnt rfl
            clear hrt hnt
            go_upto_region 7 with fail
            go_region_held3 (fun w' => w'.cell? ⟨bf, 0, none⟩ = some (.func (.func 80) #[] #[.pointer (some ⟨bn, 0, none⟩), .pointer (some ⟨bm, 0, none⟩), .pointer (some ⟨bf, 0, none⟩)]) ∧ w'.cell? ⟨b, o + 1, none⟩ = some (.slice (some ⟨b', o', none⟩) l.length c))
              (first | (exact ⟨(hc7.cell (p := ⟨bf, 0, none⟩) (by simp; exact hbf) hfn).trans x2, (hc7.cell (p := ⟨b, o + 1, none⟩) (by simp; exact hbw) hbn).trans x1⟩) | go_keep) (first | (go_at_call 80; refine Calls.mono HIk.out ?_; rintro e w7 hp7; obtain ⟨rfl, hh7, hc7⟩ := HP.out _ _ hp7))
            have HF := Lib.hid (And.intro hh7 (hR.out.2.1.drew.trans hc7 (fun i hi _ => hi)))
            clear hp7 hh7 hc7 HP
            go_wp2_with fail
            go_roundw
            case rel => exact ⟨k + 1, nt, hlt, hnt2, by go_num, Lib.hid ⟨HF.out.1, HF.out.2, HL2.out⟩⟩
            case measure => simp [intOf]; omega
          | false =>
            have HL2 := Lib.hid (show Tm.downL m (d + 1) (n + 1) l = (false, nt) by rw [← HL.out, Tm.downL, hrt]; rfl)
            clear hrt hnt
            go_upto_region 7 with fail
            go_region_held3 (fun w' => w'.cell? ⟨bf, 0, none⟩ = some (.func (.func 80) #[] #[.pointer (some ⟨bn, 0, none⟩), .pointer (some ⟨bm, 0, none⟩), .pointer (some ⟨bf, 0, none⟩)]) ∧ w'.cell? ⟨b, o + 1, none⟩ = some (.slice (some ⟨b', o', none⟩) l.length c))
              (first | (exact ⟨(hc7.cell (p := ⟨bf, 0, none⟩) (by simp; exact hbf) hfn).trans x2, (hc7.cell (p := ⟨b, o + 1, none⟩) (by simp; exact hbw) hbn).trans x1⟩) | go_keep) (first | (go_at_call 80; refine Calls.mono HIk.out ?_; rintro e w7 hp7; obtain ⟨rfl, hh7, hc7⟩ := HP.out _ _ hp7))
            have HF := Lib.hid (And.intro hh7 (hR.out.2.1.drew.trans hc7 (fun i hi _ => hi)))
            clear hp7 hh7 hc7 HP
            go_wp2_with fail
            go_ret
            unfold DownPost
            rw [Tm.down_mk, if_neg Hc.out, HL2.out]
            exact ⟨rfl, HF.out.1, HF.out.2⟩
        · obtain rfl : k = l.length := by omega
          have hlss : decide ((l.length : Int) < (l.length : Int)) = false := by simp
          go_wp2_with fail
          go_ret
          unfold DownPost
          rw [Tm.down_mk, if_neg Hc.out]
          have h2 := hR.out.2.2
          rw [List.drop_length, Tm.downL] at h2
          rw [← h2]
          exact ⟨rfl, hR.out.1, hR.out.2.1⟩
    · have d3 : decide (f < 0) = false := by simpa using c3
      clear hc h1
      go_enter Tryd.func80, Tryd.ntmps80
      go_wp2_with fail
      go_quiet (fail)
      obtain ⟨W1, hW1⟩ : ∃ W1, W1 = (w.setCell ⟨bn, 0, none⟩ (.int .i64 ((n : Int) + 1))).drewN nq := ⟨_, rfl⟩
      rw [← hW1]
      have HW2 : Hid (W1.heap[bn]? = some (.cells #[.int .i64 ((n + 1 : Nat) : Int)] 3 (0, 0)) ∧ Chg (· = bn) w W1) := Lib.hid (by rw [hW1]; exact ⟨HW1.out, ⟨HC1.out.os, HC1.out.tape, HC1.out.output, HC1.out.size, HC1.out.block⟩⟩)
      have y1 : W1.cell? ⟨b, o + 1, none⟩ = some (.slice A l.length c) := by rw [hW1]; exact z1
      clear hW1 z0 z1 zm zn
      go_wp2_with fail
      go_loopw [46] (fun i wr => ∃ k n' : Nat, k ≤ l.length ∧ n' ≤ 300 ∧ i = .int .i64 k ∧ Hid (wr.heap[bn]? = some (.cells #[.int .i64 n'] 3 (0, 0)) ∧ Chg (· = bn) w wr ∧ Tm.downL m (d + 1) n' (l.drop k) = Tm.downL m (d + 1) (n + 1) l))
        (fun i _ => l.length - (intOf i).toNat)
      case atStart => exact ⟨0, n + 1, Nat.zero_le _, by omega, rfl, Lib.hid ⟨HW2.out.1, HW2.out.2, rfl⟩⟩
      case round =>
        obtain ⟨k, n', hk, hn', rfl, hR⟩ := hrel
        by_cases hlt : k < l.length
        · have hlss : decide ((k : Int) < (l.length : Int)) = true := by simp; omega
          obtain ⟨b', o', A1, c1, rfl, hDb', hKk, p0, p1⟩ := Tm.get_ (HS.out.chg hR.out.2.1 HD.out) k hlt
          have hdk : l.drop k = l[k] :: l.drop (k + 1) := by rw [List.drop_eq_getElem_cons hlt]
          have HL := Lib.hid (show Tm.downL m (d + 1) n' (l[k] :: l.drop (k + 1)) = Tm.downL m (d + 1) (n + 1) l by rw [← hdk]; exact hR.out.2.2)
          have hWr := HDw.out.chg hR.out.2.1 hR.out.1
          have x1 : wr.cell? ⟨b, o + 1, none⟩ = some (.slice (some ⟨b', o', none⟩) l.length c) := (hR.out.2.1.cell (p := ⟨b, o + 1, none⟩) hbl hbn).trans g1
          have x2 := hWr.f
          have hbf := World.block_lt_of_cell? _ _ x2
          have hbw := World.block_lt_of_cell? _ _ x1
          simp only at hbf hbw
          have HIk := Lib.hid (HI.out l[k] (List.getElem_mem hlt) D wr.drew b' (o' + k * 2) bn bm bf (d + 1) n' A1 c1 (by omega) (by omega) hn' ⟨hWr.n, hWr.m, hWr.f, hWr.nm, hWr.nf⟩ HD.out hDb' (Tm.K.keep (w := wr) (w' := wr.drew) (fun _ _ => rfl) hKk) p0 p1)
          obtain ⟨rt, nt, hrt⟩ : ∃ rt nt, l[k].down m (d + 1) n' = (rt, nt) := ⟨_, _, rfl⟩
          have hnt := Tm.down_le m l[k] (d + 1) n' (by omega)
          have HP : Hid (∀ e w', DownPost m l[k] (d + 1) n' bn wr.drew e w' → e = .returned (.bool rt) ∧ w'.heap[bn]? = some (.cells #[.int .i64 nt] 3 (0, 0)) ∧ Chg (· = bn) wr.drew w') := Lib.hid (fun e w' h => by unfold DownPost at h; rw [hrt] at h; exact h)
          have hwd : IntKind.i64.wrap ((d : Int) + 1) = (d : Int) + 1 := IntWalk.i64_in _ (by omega)
          have ec : ((d + 1 : Nat) : Int) = (d : Int) + 1 := by omega
          rw [ec] at HIk
          rw [hrt] at hnt
          have hle3 : l.length ≤ 9223372036854775807 := hle
          have hkc : (0 : Int) ≤ (k : Int) := by omega
          have hkl : (k : Int) < (l.length : Int) := by omega
          have HWr := Lib.hid hWr
          clear hdk hKk p0 p1 ec hWr
          cases rt with
          | true =>
            have HL2 := Lib.hid (show Tm.downL m (d + 1) nt (l.drop (k + 1)) = Tm.downL m (d + 1) (n + 1) l by rw [← HL.out, Tm.downL, hrt]; rfl)
            have hnt2 := hnt rfl
            clear hrt hnt
            go_upto_region 7 with fail
            go_region_held3 (fun w' => w'.cell? ⟨bf, 0, none⟩ = some (.func (.func 80) #[] #[.pointer (some ⟨bn, 0, none⟩), .pointer (some ⟨bm, 0, none⟩), .pointer (some ⟨bf, 0, none⟩)]) ∧ w'.cell? ⟨b, o + 1, none⟩ = some (.slice (some ⟨b', o', none⟩) l.length c))
              (first | (exact ⟨(hc7.cell (p := ⟨bf, 0, none⟩) (by simp; exact hbf) hfn).trans x2, (hc7.cell (p := ⟨b, o + 1, none⟩) (by simp; exact hbw) hbn).trans x1⟩) | go_keep) (first | (go_at_call 80; refine Calls.mono HIk.out ?_; rintro e w7 hp7; obtain ⟨rfl, hh7, hc7⟩ := HP.out _ _ hp7))
            have HF := Lib.hid (And.intro hh7 (hR.out.2.1.drew.trans hc7 (fun i hi _ => hi)))
            clear hp7 hh7 hc7 HP
            go_wp2_with fail
            go_roundw
            case rel => exact ⟨k + 1, nt, hlt, hnt2, by go_num, Lib.hid ⟨HF.out.1, HF.out.2, HL2.out⟩⟩
            case measure => simp [intOf]; omega
          | false =>
            have HL2 := Lib.hid (show Tm.downL m (d + 1) (n + 1) l = (false, nt) by rw [← HL.out, Tm.downL, hrt]; rfl)
            clear hrt hnt
            go_upto_region 7 with fail
            go_region_held3 (fun w' => w'.cell? ⟨bf, 0, none⟩ = some (.func (.func 80) #[] #[.pointer (some ⟨bn, 0, none⟩), .pointer (some ⟨bm, 0, none⟩), .pointer (some ⟨bf, 0, none⟩)]) ∧ w'.cell? ⟨b, o + 1, none⟩ = some (.slice (some ⟨b', o', none⟩) l.length c))
              (first | (exact ⟨(hc7.cell (p := ⟨bf, 0, none⟩) (by simp; exact hbf) hfn).trans x2, (hc7.cell (p := ⟨b, o + 1, none⟩) (by simp; exact hbw) hbn).trans x1⟩) | go_keep) (first | (go_at_call 80; refine Calls.mono HIk.out ?_; rintro e w7 hp7; obtain ⟨rfl, hh7, hc7⟩ := HP.out _ _ hp7))
            have HF := Lib.hid (And.intro hh7 (hR.out.2.1.drew.trans hc7 (fun i hi _ => hi)))
            clear hp7 hh7 hc7 HP
            go_wp2_with fail
            go_ret
            unfold DownPost
            rw [Tm.down_mk, if_neg Hc.out, HL2.out]
            exact ⟨rfl, HF.out.1, HF.out.2⟩
        · obtain rfl : k = l.length := by omega
          have hlss : decide ((l.length : Int) < (l.length : Int)) = false := by simp
          go_wp2_with fail
          go_ret
          unfold DownPost
          rw [Tm.down_mk, if_neg Hc.out]
          have h2 := hR.out.2.2
          rw [List.drop_length, Tm.downL] at h2
          rw [← h2]
          exact ⟨rfl, hR.out.1, hR.out.2.1⟩

set_option maxRecDepth 100000 in
set_option maxHeartbeats 1000000 in
theorem term_Small (m : Int) (hm0 : 0 ≤ m) (hm1 : m ≤ 1000000) (t : Tm) (D : Nat → Prop) (w : World) (A : Option Addr) (c : Nat) (hK : Tm.K D w t [.int .i64 t.hd, .slice A t.args.length c]) :
    Calls Tryd.prog 67 #[.agg #[.int .i64 t.hd, .slice A t.args.length c], .int .i64 m] w fun e w' => e = .returned (.bool (t.smallB m)) ∧ Below w.heap.size w w' := by
  have hv := t.down_small m
  obtain ⟨rt, nt, hrt⟩ : ∃ rt nt, t.down m 1 0 = (rt, nt) := ⟨_, _, rfl⟩
  rw [hrt] at hv
  simp only at hv
  subst hv
  have HC : Hid (∀ W bn bm bf, W.heap[bn]? = some (.cells #[.int .i64 0] 3 (0, 0)) → W.cell? ⟨bm, 0, none⟩ = some (.int .i64 m) →
      W.cell? ⟨bf, 0, none⟩ = some (.func (.func 80) #[] #[.pointer (some ⟨bn, 0, none⟩), .pointer (some ⟨bm, 0, none⟩), .pointer (some ⟨bf, 0, none⟩)]) → bm ≠ bn → bf ≠ bn → w.heap.size < bn →
      Below w.heap.size w W → W.cell? ⟨w.heap.size, 0, none⟩ = some (.int .i64 t.hd) → W.cell? ⟨w.heap.size, 1, none⟩ = some (.slice A t.args.length c) →
      Calls Tryd.prog 80 #[.pointer (some ⟨w.heap.size, 0, none⟩), .int .i64 1, .pointer (some ⟨bn, 0, none⟩), .pointer (some ⟨bm, 0, none⟩), .pointer (some ⟨bf, 0, none⟩)] W (DownPost m t 1 0 bn W)) :=
    Lib.hid (fun W bn bm bf h1 h2 h3 h4 h5 h6 h7 h8 h9 =>
      down_any m hm0 hm1 t (fun k => (D k ∧ k < w.heap.size) ∨ k = w.heap.size) W w.heap.size 0 bn bm bf 1 0 A c (Nat.le_refl _) (by omega) (by omega) ⟨h1, h2, h3, h4, h5⟩ (fun k hk => by rcases hk with hk | hk <;> omega) (.inr rfl)
        (Tm.K.mono (fun k hk => .inl hk) (Rd.below (d := Tm.rd) hK.bound h7)) h8 h9)
  have HP : Hid (∀ bn W e w', DownPost m t 1 0 bn W e w' → e = .returned (.bool (t.smallB m)) ∧ Chg (· = bn) W w') := Lib.hid (fun bn W e w' h => by unfold DownPost at h; rw [hrt] at h; exact ⟨h.1, h.2.2⟩)
  clear hrt hK
  have ent : ∀ (args : Array Value) (w : World), (callFunc 80 args).run Tryd.prog w = .ok (.enter 80 args) w := down_ent
  go_enter Tryd.func67, Tryd.ntmps67
  go_wp2_with fail
  have B4 : ∀ o0 o1 o2 o3, Below w.heap.size w ((((w.alloc o0).alloc o1).alloc o2).alloc o3) := fun o0 o1 o2 o3 => ((((Below.refl _ w).alloc (Nat.le_refl _) o0).alloc (by simp) o1).alloc (by simp; omega) o2).alloc (by simp; omega) o3
  refine Calls.mono (HC.out _ _ _ _ ?_ ?_ ?_ (by omega) (by omega) (by omega) (B4 _ _ _ _) ?_ ?_) ?_
  · exact blk_alloc (blk_at ((w.alloc _).alloc _) _ _ (by simp)) _
  · rw [blk_cell (blk_alloc (blk_alloc (blk_at (w.alloc _) _ _ (by simp)) _) _)]; rfl
  · rw [blk_cell (blk_at (((w.alloc _).alloc _).alloc _) _ _ (by simp))]; rfl
  · rw [blk_cell (blk_alloc (blk_alloc (blk_alloc (blk_alloc_new w _) _) _) _)]; rfl
  · rw [blk_cell (blk_alloc (blk_alloc (blk_alloc (blk_alloc_new w _) _) _) _)]; rfl
  intro e w5 hp
  obtain ⟨rfl, hc⟩ := HP.out _ _ _ _ hp
  have hb := hc.below (B := w.heap.size) (by intro k hk; subst hk; omega) (by simp; omega)
  have HB := Lib.hid ((B4 _ _ _ _).trans hb)
  clear hc hb hp
  go_wp2_with fail
  go_ret
  exact ⟨rfl, HB.out⟩
end Go.Proofs.YtkgkdfhipgjobaaDoor
