/- match.Matcher: what it holds in memory; New, Mark, Back. -/
import Derived.Test.YtkgkdfhipgjobaaDoorSame
import Derived.Test.YtkgkdfhipgjobaaDoorMap
import Derived.Test.YtkgkdfhipgjobaaDoorMove
namespace Go.Proofs.YtkgkdfhipgjobaaDoor
open Go.RowKit
set_option linter.unusedVariables false
set_option linter.unusedSimpArgs false

/-- Entries of a map, as what they say. -/
def Ents (D : Nat → Prop) (w : World) (ps : List (Int × Value)) (σ : List (Int × Tm)) : Prop := ps.length = σ.length ∧ ∀ (i : Nat) (p : Int × Value) (q : Int × Tm), ps[i]? = some p → σ[i]? = some q → p.1 = q.1 ∧ (Rd.ptr Tm.rd).K D w q.2 [p.2]
theorem Ents.keys {D : Nat → Prop} {w : World} {ps : List (Int × Value)} {σ : List (Int × Tm)} (h : Ents D w ps σ) : ps.map (·.1) = σ.map (·.1) := by
  apply List.ext_getElem?
  intro i
  simp only [List.getElem?_map]
  by_cases hi : i < ps.length
  · have hi' : i < σ.length := by rw [← h.1]; exact hi
    rw [List.getElem?_eq_getElem hi, List.getElem?_eq_getElem hi']
    simp only [Option.map_some]
    rw [(h.2 i _ _ (List.getElem?_eq_getElem hi) (List.getElem?_eq_getElem hi')).1]
  · rw [List.getElem?_eq_none (by omega), List.getElem?_eq_none (by rw [← h.1]; omega)]
    rfl
theorem Ents.stay {D D' : Nat → Prop} {w w' : World} {ps : List (Int × Value)} {σ : List (Int × Tm)} (h : Ents D w ps σ) (hk : ∀ k, D k → k < w.heap.size → w'.heap[k]? = w.heap[k]?) (hm : ∀ k, D k → k < w.heap.size → D' k) : Ents D' w' ps σ :=
  ⟨h.1, fun i p q hp hq => ⟨(h.2 i p q hp hq).1, Rd.mono _ (fun k hk => hm k hk.1 hk.2) (Rd.keep _ (fun k hk' => hk k hk'.1 hk'.2) (Rd.bound _ (h.2 i p q hp hq).2))⟩⟩
theorem Ents.take {D : Nat → Prop} {w : World} {ps : List (Int × Value)} {σ : List (Int × Tm)} (h : Ents D w ps σ) (k : Nat) : Ents D w (ps.take k) (σ.take k) := by
  refine ⟨by simp [h.1], fun i p q hp hq => ?_⟩
  rw [List.getElem?_take] at hp hq
  split at hp
  · rw [if_pos ‹_›] at hq
    exact h.2 i p q hp hq
  · simp at hp

/-- A matcher behind block bm: what is bound, in the order in which it was bound; M: the blocks that it may write; D: the blocks of what is bound. -/
structure MSt (w : World) (M D : Nat → Prop) (bm : Nat) (σ : List (Int × Tm)) : Prop where
  ex : ∃ mb A cap es clock ps, w.heap[bm]? = some (.cells #[.map (some mb), .slice A σ.length cap] 80 (0, 0)) ∧ w.heap[mb]? = some (.map es clock) ∧ M bm ∧ M mb ∧
    (∀ k, (Value.slice A σ.length cap).ownBlock = some k → M k) ∧ Rd.int.Own (fun _ => False) 3 w 0 (.slice A σ.length cap) (σ.map (·.1)) ∧ IKeys es.toList ps ∧ Ents D w ps σ
  nd : (σ.map (·.1)).Nodup
  lt : ∀ k, M k → k < w.heap.size
  ltD : ∀ k, D k → k < w.heap.size
  dis : ∀ k, D k → ¬ M k
  len : σ.length ≤ 1099511627776

/-- Other blocks turn; D may grow. -/
theorem MSt.chg {w w' : World} {M N D D' : Nat → Prop} {bm : Nat} {σ : List (Int × Tm)} (h : MSt w M D bm σ) (hc : Chg N w w') (hN : ∀ k, k < w.heap.size → N k → ¬ M k ∧ ¬ D k) (hD : ∀ k, D k → D' k) (hl : ∀ k, D' k → k < w'.heap.size) (hdis : ∀ k, D' k → ¬ M k) : MSt w' M D' bm σ := by
  obtain ⟨mb, A, cap, es, clock, ps, h1, h2, h3, h4, h5, h6, h7, h8⟩ := h.ex
  have hb : ∀ k, k < w.heap.size → M k ∨ D k → w'.heap[k]? = w.heap[k]? := fun k hk hm => hc.block k hk (fun hn => by have := hN k hk hn; rcases hm with hm | hm; exact this.1 hm; exact this.2 hm)
  exact ⟨⟨mb, A, cap, es, clock, ps, (hb bm (h.lt bm h3) (.inl h3)).trans h1, (hb mb (h.lt mb h4) (.inl h4)).trans h2, h3, h4, h5, h6.stay (fun k hk hlt => hb k hlt (.inl (by rcases hk with hk | hk; exact hk.elim; exact h5 k hk))) (fun _ h => h), h7, h8.stay (fun k hk hlt => hb k hlt (.inr hk)) (fun k h _ => hD k h)⟩,
    h.nd, fun k hk => Nat.lt_of_lt_of_le (h.lt k hk) hc.size, hl, hdis, h.len⟩
theorem MSt.below {w w' : World} {M D : Nat → Prop} {bm : Nat} {σ : List (Int × Tm)} (h : MSt w M D bm σ) (hb : Below w.heap.size w w') : MSt w' M D bm σ :=
  h.chg (Chg.of_below hb (fun _ => False)) (fun _ _ h => h.elim) (fun _ h => h) (fun k hk => Nat.lt_of_lt_of_le (h.ltD k hk) hb.size) h.dis

set_option maxHeartbeats 400000 in
theorem new_any (w : World) : Calls Tryd.prog 18 #[] w fun e w' => e = .returned (.pointer (some ⟨w.heap.size + 1, 0, none⟩)) ∧ MSt w' (fun k => w.heap.size ≤ k ∧ k < w.heap.size + 2) (fun _ => False) (w.heap.size + 1) [] ∧ Below w.heap.size w w' ∧ w'.heap.size = w.heap.size + 2 := by
  have hmm := @run_makeMap Tryd.prog
  go_enter Tryd.func18, Tryd.ntmps18
  go_wp2_with fail
  go_ret
  refine ⟨rfl, ⟨⟨w.heap.size, none, 0, #[], 0, [], ?_, ?_, by omega, by omega, fun k h => by simp [Value.ownBlock] at h, Rd.Own.nil _ _ _ _ _, rfl, rfl, fun i p q hp => by simp at hp⟩, by simp, fun k hk => by simp; omega, fun _ h => h.elim, fun _ h => h.elim, by simp⟩, ((Below.refl _ w).alloc (Nat.le_refl _) _).alloc (by simp) _, by simp⟩
  · have := blk_alloc_new (w.alloc (.map #[] 0)) (.cells #[.map (some w.heap.size), .slice none 0 0] 80); simpa using this
  · exact blk_alloc (blk_alloc_new w _) _

set_option maxHeartbeats 400000 in
theorem mark_any (w : World) (M D : Nat → Prop) (bm : Nat) (σ : List (Int × Tm)) (h : MSt w M D bm σ) : Calls Tryd.prog 21 #[.pointer (some ⟨bm, 0, none⟩)] w fun e w' => e = .returned (.int .i64 σ.length) ∧ w = w' := by
  obtain ⟨mb, A, cap, es, clock, ps, h1, h2, h3, h4, h5, h6, h7, h8⟩ := h.ex
  have c1 : w.cell? ⟨bm, 1, none⟩ = some (.slice A σ.length cap) := by rw [blk_cell h1]; rfl
  clear h1 h2 h3 h4 h5 h6 h7 h8 h
  go_enter Tryd.func21, Tryd.ntmps21
  go_wp2_with fail
  go_ret
  exact ⟨rfl, rfl⟩

/-- Back, a mark that stands. -/
theorem erase_key {ps : List (Int × Value)} (hn : (ps.map (·.1)).Nodup) (j i : Nat) (hji : j ≤ i) (hi : i < ps.length) : fnd ps[i].1 (ps.take j ++ ps.drop i) 0 = some (j, ps[i].2) := by
  have hl : (ps.take j).length = j := by rw [List.length_take]; omega
  have hj : j < (ps.take j ++ ps.drop i).length := by rw [List.length_append, hl, List.length_drop]; omega
  have hg : (ps.take j ++ ps.drop i)[j] = ps[i] := by
    rw [List.getElem_append_right (by omega)]
    simp [hl]
  have := fnd_some (k := ps[i].1) (ps := ps.take j ++ ps.drop i) (i := 0) hj (by rw [hg]) (fun m hm => by
    rw [List.getElem_append_left (by omega), List.getElem_take]
    intro e
    have h1 := (List.pairwise_iff_getElem.1 hn) m i (by simp; omega) (by simpa using hi) (by omega)
    simp at h1
    exact h1 e)
  rw [hg] at this
  simpa using this
theorem erase_mid {α : Type} (ps : List α) (j i : Nat) (hji : j ≤ i) (hi : i < ps.length) : (ps.take j ++ ps.drop i).eraseIdx j = ps.take j ++ ps.drop (i + 1) := by
  have hl : (ps.take j).length = j := by rw [List.length_take]; omega
  rw [List.eraseIdx_append_of_length_le (by omega), hl, Nat.sub_self, List.drop_eq_getElem_cons hi]
  rfl
theorem IKeys.erase {es : Array MapEntry} {ps : List (Int × Value)} (h : IKeys es.toList ps) (j : Nat) : IKeys (es.eraseIdxIfInBounds j).toList (ps.eraseIdx j) := by
  have : (es.eraseIdxIfInBounds j).toList = es.toList.eraseIdx j := by
    unfold Array.eraseIdxIfInBounds
    split
    · simp
    · rename_i hj
      rw [List.eraseIdx_of_length_le (by simp; omega)]
  unfold IKeys at h ⊢
  rw [this]
  simp only [List.eraseIdx_eq_take_drop_succ, List.map_append, List.map_take, List.map_drop, h]

set_option maxRecDepth 100000 in
set_option maxHeartbeats 1000000 in
theorem back_any (w : World) (M D : Nat → Prop) (bm : Nat) (σ : List (Int × Tm)) (k : Nat) (hk : k ≤ σ.length) (h : MSt w M D bm σ) :
    Calls Tryd.prog 23 #[.pointer (some ⟨bm, 0, none⟩), .int .i64 k] w fun e w' => e = .returned (.tuple #[]) ∧ MSt w' M D bm (σ.take k) ∧ Chg M w w' ∧ w'.heap.size = w.heap.size := by
  obtain ⟨mb, A, cap, es, clock, ps, h1, h2, h3, h4, h5, h6, h7, h8⟩ := h.ex
  have c0 : w.cell? ⟨bm, 0, none⟩ = some (.map (some mb)) := by rw [blk_cell h1]; rfl
  have c1 : w.cell? ⟨bm, 1, none⟩ = some (.slice A σ.length cap) := by rw [blk_cell h1]; rfl
  have hlen := h.len
  have d1 : decide ((k : Int) < 0) = false := by simp
  have d2 : decide (σ.length < k) = false := by simp; omega
  obtain ⟨hcl, hcm⟩ : σ.length ≤ cap ∧ cap ≤ 9223372036854775807 := by
    obtain ⟨cells, ⟨_, ho⟩, _⟩ := h6
    rcases ho with ⟨e, h0⟩ | ⟨g, c, cur, e, _, _, hc1, hc2, _⟩
    · simp at e h0
      subst h0
      simp [e]
    · simp at e hc1
      obtain ⟨-, rfl⟩ := e
      exact ⟨hc1, hc2⟩
  have hcell : ∀ i (hi : i < σ.length), ∃ g, A = some ⟨g, 0, none⟩ ∧ w.cell? ⟨g, i, none⟩ = some (.int .i64 (σ[i].1)) ∧ g ≠ bm ∧ g ≠ mb := by
    intro i hi
    obtain ⟨cells, ⟨_, ho⟩, hc⟩ := h6
    rcases ho with ⟨e, h0⟩ | ⟨g, c, cur, e, _, hh, hc1, hc2, _, ht⟩
    · simp at h0
      subst h0
      simp at hi
    · simp at e
      obtain ⟨e1, -⟩ := e
      refine ⟨g, e1, ?_, fun e => ?_, fun e => ?_⟩
      · obtain ⟨cs, hcs, hu⟩ := hc i (σ[i].1) (by simp [List.getElem?_map, hi])
        obtain rfl : cs = [.int .i64 σ[i].1] := hcs
        have := hu 0 _ rfl
        rw [← ht, List.getElem?_take] at this
        split at this
        · rw [blk_cell hh]
          simpa [Rd.int, Rd.scalar] using this
        · simp at this
      · subst e; rw [hh] at h1; simp at h1
      · subst e; rw [hh] at h2; simp at h2
  have HC := Lib.hid hcell
  have hst : ∀ (wr : World) (es' : Array MapEntry), wr.heap[mb]? = some (.map es' clock) → IKeys es'.toList (ps.take k) → Chg (· = mb) w wr → wr.heap.size = w.heap.size →
      MSt (wr.setCell ⟨bm, 1, none⟩ (.slice A k cap)) M D bm (σ.take k) ∧ Chg M w (wr.setCell ⟨bm, 1, none⟩ (.slice A k cap)) ∧ (wr.setCell ⟨bm, 1, none⟩ (.slice A k cap)).heap.size = w.heap.size := by
    intro wr es' hm' hi' hc hs
    have hmb : mb ≠ bm := fun e => by subst e; rw [h1] at h2; simp at h2
    have hlk : (σ.take k).length = k := by rw [List.length_take]; omega
    have hbm : wr.heap[bm]? = _ := (hc.block bm (blk_lt h1) (fun e => hmb e.symm)).trans h1
    have hother : ∀ q, q < w.heap.size → q ≠ mb → q ≠ bm → (wr.setCell ⟨bm, 1, none⟩ (.slice A k cap)).heap[q]? = w.heap[q]? := fun q hq hq1 hq2 => (blk_set_ne hq2).trans (hc.block q hq hq1)
    refine ⟨⟨⟨mb, A, cap, es', clock, ps.take k, ?_, ?_, h3, h4, ?_, ?_, hi', ?_⟩, ?_, ?_, ?_, h.dis, ?_⟩, ?_, ?_⟩
    · rw [hlk]; exact blk_set hbm 1 _
    · exact (blk_set_ne hmb).trans hm'
    · intro q hq; exact h5 q (by cases A <;> exact hq)
    · rw [hlk, List.map_take]
      refine (h6.take k (by simpa using hk)).stay (fun q hq hlt => ?_) (fun _ h => h)
      rcases hq with hq | hq
      · exact hq.elim
      · refine hother q hlt (fun e => ?_) (fun e => ?_)
        · subst e
          obtain ⟨cells, ⟨_, ho⟩, _⟩ := h6
          rcases ho with ⟨e, _⟩ | ⟨g, c, cur, e, _, hh, _⟩
          · simp at e; simp [e, Value.ownBlock] at hq
          · simp at e; simp [e, Value.ownBlock] at hq; subst hq; rw [hh] at h2; simp at h2
        · subst e
          obtain ⟨cells, ⟨_, ho⟩, _⟩ := h6
          rcases ho with ⟨e, _⟩ | ⟨g, c, cur, e, _, hh, _⟩
          · simp at e; simp [e, Value.ownBlock] at hq
          · simp at e; simp [e, Value.ownBlock] at hq; subst hq; rw [hh] at h1; simp at h1
    · exact (h8.take k).stay (fun q hq hlt => hother q hlt (fun e => h.dis q hq (e ▸ h4)) (fun e => h.dis q hq (e ▸ h3))) (fun _ h _ => h)
    · rw [List.map_take]; exact h.nd.sublist (List.take_sublist _ _)
    · intro q hq; rw [size_set, hs]; exact h.lt q hq
    · intro q hq; rw [size_set, hs]; exact h.ltD q hq
    · rw [hlk]; omega
    · exact chg_set (hc.mono (fun q _ e => e ▸ h4)) (fun _ => h3) _
    · rw [size_set, hs]
  have HST := Lib.hid hst
  have f1 := blk_frozen h1 1
  have lbm := blk_lt h1
  have HX := Lib.hid (And.intro h1 (And.intro h2 (And.intro h7 (And.intro h8 h.nd))))
  have hne : Hid (mb ≠ bm) := fun e => by subst e; rw [h1] at h2; simp at h2
  clear hst hcell h1 h2 h3 h4 h5 h6 h7 h8 h
  have hps : Hid (ps.length = σ.length) := HX.out.2.2.2.1.1
  by_cases hkn : k = σ.length
  · subst hkn
    have HE := Lib.hid (HST.out w es HX.out.2.1 (by rw [← hps.out, List.take_length]; exact HX.out.2.2.1) (Chg.refl _ _) rfl)
    by_cases hcc : cap = σ.length
    all_goals
      (first | subst hcc | skip)
      go_enter Tryd.func23, Tryd.ntmps23
      go_wp2_with fail
      go_loop [28] (fun i => i = .int .i64 0) (fun i => 0)
      case atStart => rfl
      case round =>
        obtain rfl := hrel
        go_wp2_with fail
        go_end0
        exact ⟨rfl, by have := HE.out; rwa [List.take_length] at this⟩
  · have hck : ¬ cap = k := by omega
    obtain ⟨g, rfl, -, -⟩ := HC.out k (by omega)
    go_enter Tryd.func23, Tryd.ntmps23
    go_wp2_with fail
    go_loopw [28] (fun i wr => ∃ (j : Nat) (es' : Array MapEntry), j + k ≤ σ.length ∧ i = .int .i64 j ∧ Hid (wr.heap[mb]? = some (.map es' clock)) ∧ Hid (IKeys es'.toList (ps.take k ++ ps.drop (k + j))) ∧ Hid (Chg (· = mb) w wr) ∧ Hid (wr.heap.size = w.heap.size))
      (fun i _ => σ.length - (intOf i).toNat)
    case atStart => exact ⟨0, es, by omega, rfl, HX.out.2.1, by show IKeys _ _; rw [Nat.add_zero, List.take_append_drop]; exact HX.out.2.2.1, Chg.refl _ _, rfl⟩
    case round =>
      obtain ⟨j, es', hj, rfl, hm, hi, hc, hs⟩ := hrel
      by_cases hlt : j + k < σ.length
      · obtain ⟨g', e', hgc, hg1, hg2⟩ := HC.out (k + j) (by omega)
        simp only [Option.some.injEq, Addr.mk.injEq, and_true] at e'
        subst e'
        have hne' := hne.out
        have e0 : wr.cell? ⟨bm, 0, none⟩ = some (.map (some mb)) := (hc.out.cell (p := ⟨bm, 0, none⟩) lbm (fun e => hne' e.symm)).trans c0
        have e1 : wr.cell? ⟨g, k + j, none⟩ = some (.int .i64 (σ[k + j]'(by omega)).1) := (hc.out.cell (p := ⟨g, k + j, none⟩) (World.block_lt_of_cell? w _ hgc) hg2).trans hgc
        have e2 : decide (j < σ.length - k) = true := by simp; omega
        have hpk : k + j < ps.length := by have := hps.out; omega
        have hkey : ps[k + j].1 = (σ[k + j]'(by omega)).1 := (HX.out.2.2.2.1.2 (k + j) _ _ (List.getElem?_eq_getElem hpk) (List.getElem?_eq_getElem (by omega))).1
        have hdel := fun ty => run_delete_int (P := Tryd.prog) (E := 121) ty Tryd.underlying78 Tryd.underlying3 hm.out hi.out (σ[k + j]'(by omega)).1 k ps[k + j].2 (by rw [← hkey]; exact erase_key (by rw [HX.out.2.2.2.1.keys]; exact HX.out.2.2.2.2) k (k + j) (by omega) hpk)
        have HI := Lib.hid (hi.out.erase k)
        have HP := Lib.hid (erase_mid ps k (k + j) (by omega) hpk)
        clear hgc hkey hne'
        go_wp2_with fail
        clear hdel e0 e1 e2
        go_roundw
        case rel =>
          refine ⟨j + 1, _, by omega, by go_num, putO_at hm.out, ?_, ?_, by show _ = _; rw [putO_size]; exact hs.out⟩
          · show IKeys _ _; rw [← Nat.add_assoc, ← HP.out]; exact HI.out
          · exact hc.out.trans (putO_chg _ _ _) (fun q h _ => h)
        case measure => simp [intOf]; omega
      · obtain rfl : j = σ.length - k := by omega
        have hne' := hne.out
        have e0 : wr.cell? ⟨bm, 0, none⟩ = some (.map (some mb)) := (hc.out.cell (p := ⟨bm, 0, none⟩) lbm (fun e => hne' e.symm)).trans c0
        have e1 : wr.cell? ⟨bm, 1, none⟩ = some (.slice (some ⟨g, 0, none⟩) σ.length cap) := (hc.out.cell (p := ⟨bm, 1, none⟩) lbm (fun e => hne' e.symm)).trans c1
        have e3 : wr.frozen? ⟨bm, 1, none⟩ = false := (hc.out.frozen (p := ⟨bm, 1, none⟩) lbm (fun e => hne' e.symm)).trans f1
        have HE := Lib.hid (HST.out wr es' hm.out (by have := hi.out; rwa [List.drop_of_length_le (by rw [hps.out]; omega), List.append_nil] at this) hc.out hs.out)
        clear hne'
        go_wp2_with fail
        go_end0
        exact ⟨rfl, HE.out⟩
end Go.Proofs.YtkgkdfhipgjobaaDoor
