/- clause.Alike: what it answers. -/
import Derived.Test.YtkgkdfhipgjobaaDoorAlike
import Derived.Laws.EntriesVeiled
namespace Go.Proofs.YtkgkdfhipgjobaaDoor
open Go.RowKit
set_option linter.unusedVariables false
set_option linter.unusedSimpArgs false

theorem infoBool : (Tryd.prog.info? 4).map (fun i => (i.zero, i.size, i.bytes)) = some (some (.bool false), 1, 1) := by kernel_rfl
theorem MSt.as_ {w : World} {M M' D : Nat → Prop} {bm bm' : Nat} {σ : Sg} (h : MSt w M D bm σ) (hM : ∀ k, M k ↔ M' k) (hb : bm = bm') : MSt w M' D bm' σ := by
  obtain rfl : M = M' := funext fun k => propext (hM k)
  subst hb
  exact h
theorem made_bools (n : Nat) : madeCells #[Value.bool false] n = ((List.replicate n false).map Value.bool).toArray := by
  apply Array.ext
  · simp [size_madeCells]
  · intro i h1 h2
    simp [madeCells, Nat.mod_one]
/-- What Alike answers. -/
def alikeF (a b : List Lt) : Bool := a.length == b.length && (frm b a [] [] (List.replicate b.length false) 0).1

set_option maxRecDepth 100000 in
set_option maxHeartbeats 4000000 in
theorem alike_any (w : World) (D : Nat → Prop) (a b : List Lt) (Aa Ab : Option Addr) (ca cb : Nat) (ha : a.length ≤ 5) (hsa : Lt.rd.Sl D w Aa ca a) (hsb : Lt.rd.Sl D w Ab cb b) (hn : ∀ x ∈ a ++ b, x.l.AllH fits ∧ x.r.AllH fits ∧ x.l.nodes ≤ 1000000 ∧ x.r.nodes ≤ 1000000) :
    Calls Tryd.prog 8 #[.slice Aa a.length ca, .slice Ab b.length cb] w fun e w' => e = .returned (.bool (alikeF a b)) ∧ Below w.heap.size w w' := by
  have hbm : b.length ≤ 9223372036854775807 := Nat.le_trans hsb.le hsb.mx
  have HB2 := Lib.hid (fun o1 o2 => ((Below.refl w.heap.size w).alloc (Nat.le_refl _) o1).alloc (by simp) o2)
  by_cases hl : a.length = b.length
  · have hb5 : b.length ≤ 5 := by omega
    have HS := Lib.hid (And.intro hsa (And.intro hsb hn))
    have hne : ((a.length : Int) != (b.length : Int)) = false := by simp [hl]
    have hgt : decide ((1000 : Int) < (a.length : Int)) = false := by simp; omega
    have hmk := make_rows (P := Tryd.prog) 25 4 (.bool false) 1 1 Tryd.underlying25 infoBool b.length (by omega) hbm
    have ent := alike1_ent
    clear hsa hsb hn
    go_enter Tryd.func8, Tryd.ntmps8
    go_wp2_with fail
    refine (new_any _).mono ?_
    rintro e w1 ⟨rfl, hst1, hb1, hs1⟩
    have z1 : w1.heap.size = w.heap.size + 6 := by rw [hs1]; simp
    have B0 : w1.heap[w.heap.size]? = some (.cells #[.slice Aa b.length ca] 23 (0, 0)) := (hb1.block _ (by simp; try omega)).trans (blk_alloc (blk_alloc (blk_alloc (blk_alloc_new w _) _) _) _)
    have B1 : w1.heap[w.heap.size + 1]? = some (.cells #[.slice Ab b.length cb] 23 (0, 0)) := (hb1.block _ (by simp; try omega)).trans (blk_alloc (blk_alloc (blk_alloc_at (w.alloc _) _ _ (by simp)) _) _)
    have B2 : w1.heap[w.heap.size + 2]? = some (.cells (madeCells #[.bool false] b.length) 4 (0, 0)) := (hb1.block _ (by simp; try omega)).trans (blk_alloc (blk_alloc_at ((w.alloc _).alloc _) _ _ (by simp)) _)
    have B3 : w1.heap[w.heap.size + 3]? = some (.cells #[.slice (some ⟨w.heap.size + 1 + 1, 0, none⟩) b.length b.length] 25 (0, 0)) := (hb1.block _ (by simp; try omega)).trans (blk_alloc_at _ _ _ (by simp))
    have hbw1 : Below w.heap.size w w1 := ((((Below.refl w.heap.size w).alloc (Nat.le_refl _) _).alloc (by simp) _).alloc (by simp; try omega) _).alloc (by simp; try omega) _ |>.trans (hb1.mono (by simp; try omega))
    have HQ1 := Lib.hid (And.intro hst1 (And.intro B0 (And.intro B1 (And.intro B2 (And.intro B3 hbw1)))))
    have Z1 := Lib.hid z1
    clear z1 hst1 hb1 hs1 B0 B1 B2 B3 hbw1 hmk
    go_wp2_with fail
    refine (new_any _).mono ?_
    rintro e w2 ⟨rfl, hst2, hb2, hs2⟩
    have z2 : w2.heap.size = w.heap.size + 8 := by have := Z1.out; omega
    have Z2 := Lib.hid z2
    clear z2
    have HQ2 := Lib.hid (And.intro hst2 hb2)
    clear hst2 hb2 hs2
    have G9 : ((((w2.alloc (.cells #[.pointer (some ⟨w.heap.size + 1 + 1 + 1 + 1 + 1, 0, none⟩)] 52)).alloc (.cells #[.pointer (some ⟨w1.heap.size + 1, 0, none⟩)] 52)).alloc (.cells #[.int .i64 0] 3)).alloc (.cells #[.nilFunc] 54)).heap[w2.heap.size + 1 + 1 + 1]? = some (.cells #[.nilFunc] 54 (0, 0)) := blk_alloc_at _ _ _ (by simp)
    have c9 : ((((w2.alloc (.cells #[.pointer (some ⟨w.heap.size + 1 + 1 + 1 + 1 + 1, 0, none⟩)] 52)).alloc (.cells #[.pointer (some ⟨w1.heap.size + 1, 0, none⟩)] 52)).alloc (.cells #[.int .i64 0] 3)).alloc (.cells #[.nilFunc] 54)).cell? ⟨w2.heap.size + 1 + 1 + 1, 0, none⟩ = some .nilFunc := by rw [blk_cell G9]; rfl
    have f9 : ((((w2.alloc (.cells #[.pointer (some ⟨w.heap.size + 1 + 1 + 1 + 1 + 1, 0, none⟩)] 52)).alloc (.cells #[.pointer (some ⟨w1.heap.size + 1, 0, none⟩)] 52)).alloc (.cells #[.int .i64 0] 3)).alloc (.cells #[.nilFunc] 54)).frozen? ⟨w2.heap.size + 1 + 1 + 1, 0, none⟩ = false := blk_frozen G9 0
    clear G9
    go_wp2_with fail
    have hs1' : Hid (MSt w1 (fun k => w.heap.size + 4 ≤ k ∧ k < w.heap.size + 6) (fun _ => False) (w.heap.size + 1 + 1 + 1 + 1 + 1) []) := Lib.hid (HQ1.out.1.as_ (fun k => by simp <;> omega) (by simp))
    have hs2' : Hid (MSt w2 (fun k => w.heap.size + 6 ≤ k ∧ k < w.heap.size + 8) (fun _ => False) (w1.heap.size + 1) []) := Lib.hid (HQ2.out.1.as_ (fun k => by have := Z1.out; omega) rfl)
    have hbs := Lib.hid HQ1.out.2
    refine Calls.mono (from_any ⟨fun k => k < w.heap.size + 2 ∨ k = w.heap.size + 3 ∨ k = w2.heap.size ∨ k = w2.heap.size + 1 ∨ k = w2.heap.size + 3, a, b, Aa, Ab, ca, cb, w.heap.size + 1 + 1 + 1 + 1 + 1, w1.heap.size + 1, w.heap.size + 1 + 1, b.length, w.heap.size, w.heap.size + 1, w.heap.size + 1 + 1 + 1, w2.heap.size + 1 + 1, w2.heap.size, w2.heap.size + 1, w2.heap.size + 1 + 1 + 1⟩
      ha hl.symm HS.out.2.2 a 0 (by simp) (Nat.zero_le _) _ (fun k => w.heap.size + 4 ≤ k ∧ k < w.heap.size + 6) (fun _ => False) (fun k => w.heap.size + 6 ≤ k ∧ k < w.heap.size + 8) (fun _ => False) [] [] (List.replicate b.length false) 0 ?_ (by simp) (by omega) (by simp) (by simp)) ?_
    · have hz1 := Z1.out
      have hz2 := Z2.out
      obtain ⟨B0, B1, B2, B3, hbw1⟩ := HQ1.out.2
      have hb2 := HQ2.out.2
      have hb4 := fun o0 o1 o2 o3 => ((((Below.refl w2.heap.size w2).alloc (Nat.le_refl _) o0).alloc (by simp) o1).alloc (by simp; try omega) o2).alloc (by simp; try omega) o3
      have K0 := fun o0 o1 o2 o3 => ((hb4 o0 o1 o2 o3).block _ (by omega)).trans ((hb2.block _ (by omega)).trans B0)
      have K1 := fun o0 o1 o2 o3 => ((hb4 o0 o1 o2 o3).block _ (by omega)).trans ((hb2.block _ (by omega)).trans B1)
      have K2 := fun o0 o1 o2 o3 => ((hb4 o0 o1 o2 o3).block _ (by omega)).trans ((hb2.block _ (by omega)).trans B2)
      have K3 := fun o0 o1 o2 o3 => ((hb4 o0 o1 o2 o3).block _ (by omega)).trans ((hb2.block _ (by omega)).trans B3)
      have hbw : ∀ o0 o1 o2 o3, Below w.heap.size w ((((w2.alloc o0).alloc o1).alloc o2).alloc o3) := fun o0 o1 o2 o3 => hbw1.trans ((hb2.mono (by omega)).trans ((hb4 o0 o1 o2 o3).mono (by omega)))
      have S1 := fun o0 o1 o2 o3 => (hs1'.out.below hb2).below (hb4 o0 o1 o2 o3)
      have S2 := fun o0 o1 o2 o3 => hs2'.out.below (hb4 o0 o1 o2 o3)
      refine ⟨⟨S1 _ _ _ _, S2 _ _ _ _, ⟨4, ?_⟩, ⟨_, blk_alloc (blk_alloc_at ((w2.alloc _).alloc _) _ _ (by simp)) _⟩, ?_, ?_, ?_⟩, fun _ h => .inl h, fun _ h => .inl h, Chg.refl _ _, ⟨?_, ?_, ?_, ?_, ?_, ?_, ?_, ?_, ?_, ?_, ?_⟩, ?_⟩
      · show _ = some (Obj.cells ((List.replicate b.length false).map Value.bool).toArray _ _)
        rw [← made_bools]
        exact K2 _ _ _ _
      · rintro k (h1 | h1) (h2 | h2)
        · (try dsimp only at h1 h2); omega
        · exact h2
        · exact h1
        · exact h1
      · rintro k (h1 | h1 | h1 | h1)
        · (try dsimp only at h1 ⊢); omega
        · exact h1.elim
        · (try dsimp only at h1 ⊢); omega
        · exact h1.elim
      · (try dsimp only); omega
      · exact ((HS.out.1.bound).mono (fun k hk => .inl (by have := hk.2; omega))).below (hbw _ _ _ _)
      · exact ((HS.out.2.1.bound).mono (fun k hk => .inl (by have := hk.2; omega))).below (hbw _ _ _ _)
      · intro k hk; simp only [World.size_alloc] at hk ⊢; omega
      · exact ⟨.inl (by show w.heap.size < _; omega), .inl (by show w.heap.size + 1 < _; omega), .inr (.inl rfl), .inr (.inr (.inl rfl)), .inr (.inr (.inr (.inl rfl))), .inr (.inr (.inr (.inr rfl)))⟩
      · rw [blk_cell (K0 _ _ _ _)]; simp [hl]
      · rw [blk_cell (K1 _ _ _ _)]; rfl
      · rw [blk_cell (K3 _ _ _ _)]; rfl
      · rw [blk_cell (blk_alloc (blk_alloc (blk_alloc (blk_alloc_new w2 _) _) _) _)]; rfl
      · rw [blk_cell (blk_alloc (blk_alloc (blk_alloc_at (w2.alloc _) _ _ (by simp)) _) _)]; rfl
      · rw [blk_cell (blk_alloc_at (((w2.alloc _).alloc _).alloc _) _ _ (by simp))]; rfl
      · exact ⟨Nat.le_refl _, hbm⟩
      · rintro k hk (h1 | h1 | h1 | h1) <;> (try dsimp only at h1 hk) <;> omega
    · rintro e w5 ⟨rfl, hc, -⟩
      go_wp2_with fail
      go_ret
      have hz1 := Z1.out
      have hz2 := Z2.out
      obtain ⟨B0, B1, B2, B3, hbw1⟩ := HQ1.out.2
      have hb2 := HQ2.out.2
      have hb4 := fun o0 o1 o2 o3 => ((((Below.refl w2.heap.size w2).alloc (Nat.le_refl _) o0).alloc (by simp) o1).alloc (by simp; try omega) o2).alloc (by simp; try omega) o3
      refine ⟨by rw [alikeF, hl]; simp, (hbw1.trans ((hb2.mono (by omega)).trans ((hb4 _ _ _ _).mono (by omega)))).trans (hc.below ?_ ?_)⟩
      · rintro k (h1 | h1 | h1 | h1) <;> (try dsimp only at h1) <;> omega
      · simp only [World.size_alloc]; omega
  · have hne : ((a.length : Int) != (b.length : Int)) = true := by simp; omega
    have hf : alikeF a b = false := by simp [alikeF, hl]
    have HF := Lib.hid hf
    clear hsa hsb hn hf
    go_enter Tryd.func8, Tryd.ntmps8
    go_wp2_with fail
    go_ret
    exact ⟨by rw [HF.out]; rfl, HB2.out _ _⟩
end Go.Proofs.YtkgkdfhipgjobaaDoor
