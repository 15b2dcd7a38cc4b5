/- term.Copy: a term in new memory. -/
import Derived.Test.YtkgkdfhipgjobaaDoorSame
import Derived.Deep.RegionHeld3
import Derived.Deep.DeepCutAuto
namespace Go.Proofs.YtkgkdfhipgjobaaDoor
open Go.RowKit
set_option linter.unusedVariables false
set_option linter.unusedSimpArgs false

theorem infoTerm : (Tryd.prog.info? 30).map (fun i => (i.zero, i.size, i.bytes)) = some (some (.agg #[.int .i64 0, .slice none 0 0]), 2, 32) := by kernel_rfl

/-- What a copy leaves: a term in blocks from B on. -/
def Copied (B : Nat) (t : Tm) (w : World) (e : Ending) (w' : World) : Prop :=
  ∃ A c, e = .returned (.agg #[.int .i64 t.hd, .slice A t.args.length c]) ∧ Tm.K (fun k => B ≤ k) w' t [.int .i64 t.hd, .slice A t.args.length c] ∧ Below w.heap.size w w'

theorem snoc2 {d : Rd Tm} (hd : d = Tm.rd) {D : Nat → Prop} {e : TypeId} {w : World} {g n k : Nat} {xs : List Tm} {x : Tm} {c0 c1 : Value} (h : d.Part D e w g n xs) (hx : d.K (fun k => D k ∧ k ≠ g) w x [c0, c1]) (hl : xs.length = k) (hk : k < n) :
    d.Part D e ((w.setCell ⟨g, k * 2, none⟩ c0).setCell ⟨g, k * 2 + 1, none⟩ c1) g n (xs ++ [x]) := by
  obtain ⟨cur, h1, h2⟩ := h.blk
  have hsz : d.sz = 2 := by rw [hd]; rfl
  have hcs : cur.size = n * 2 := by rw [h2, hsz]
  refine Rd.Part.snoc (cur' := (cur.setIfInBounds (k * 2) c0).setIfInBounds (k * 2 + 1) c1) h hx (blk_set (blk_set h1 _ _) _ _) (fun cur2 hc => ?_) (fun k _ hk => ?_)
  · rw [h1] at hc
    simp at hc
    subst hc
    refine ⟨by simp, fun j u hj => ?_, fun i hi => ?_⟩
    · rw [hl, hsz]
      match j, hj with
      | 0, hj =>
        simp at hj
        subst hj
        rw [Array.getElem?_setIfInBounds_ne (by omega), Nat.add_zero, Array.getElem?_setIfInBounds_self_of_lt (by omega)]
      | 1, hj =>
        simp at hj
        subst hj
        rw [Array.getElem?_setIfInBounds_self_of_lt (by simp; omega)]
    · rw [hl, hsz] at hi
      rw [Array.getElem?_setIfInBounds_ne (by omega), Array.getElem?_setIfInBounds_ne (by omega)]
  · rw [blk_set_ne hk, blk_set_ne hk]

set_option maxHeartbeats 1000000 in
theorem copy_any : ∀ (t : Tm) (D : Nat → Prop) (w : World) (A : Option Addr) (c : Nat), Tm.K D w t [.int .i64 t.hd, .slice A t.args.length c] →
    Calls Tryd.prog 115 #[.agg #[.int .i64 t.hd, .slice A t.args.length c]] w (Copied w.heap.size t w) := by
  intro t
  induction t using Tm.ind with
  | h f l ih =>
  intro D w A c hK
  obtain ⟨A', cap', e, hS⟩ := hK.open_
  simp only [Tm.hd, Tm.args, List.cons.injEq, Value.slice.injEq, and_true, true_and] at e
  obtain ⟨rfl, rfl⟩ := e
  have HI := Lib.hid ih
  have HS := Lib.hid hS
  have hle : l.length ≤ 9223372036854775807 := Nat.le_trans hS.le hS.mx
  have hcap : c ≤ 9223372036854775807 := hS.mx
  have hle2 := hS.le
  have hby : l.length * 32 ≤ 140737488355328 := hS.by_
  clear ih hS hK
  simp only [Tm.hd, Tm.args]
  rcases Nat.eq_zero_or_pos l.length with hl0 | hl0
  · obtain rfl : l = [] := List.eq_nil_of_length_eq_zero hl0
    clear hl0
    go_enter Tryd.func115, Tryd.ntmps115
    go_wp2_with fail
    go_loop [21] (fun i => i = .int .i64 0) (fun i => 0)
    case atStart => rfl
    case round =>
      obtain rfl := hrel
      go_wp2_with fail
      refine bodyPost_ret (v := .agg #[.int .i64 f, .slice none 0 0]) (by simp [results, Tryd.results115, go_sem]) rfl ⟨none, 0, rfl, Tm.K.mk_ f (Rd.Sl.nil _ _ _ _), ?_⟩
      exact (((Below.refl _ w).alloc (Nat.le_refl _) _).alloc (by simp) _).alloc (by simp; omega) _
  · have hd : decide (0 < l.length) = true := by simpa using hl0
    have hmk := make_rows (P := Tryd.prog) 28 30 (.agg #[.int .i64 0, .slice none 0 0]) 2 32 Tryd.underlying28 infoTerm l.length (by omega) hle
    go_enter Tryd.func115, Tryd.ntmps115
    go_wp2_with fail
    clear hmk
    go_loopw [21] (fun i wr => ∃ k : Nat, k ≤ l.length ∧ i = .int .i64 k ∧ Hid (Below w.heap.size w wr) ∧ Hid (w.heap.size + 4 ≤ wr.heap.size) ∧
        Hid (wr.heap[w.heap.size + 1]? = some (.cells #[.int .i64 0, .slice none 0 0] 30 (0, 0))) ∧
        Hid (wr.heap[w.heap.size + 1 + 1]? = some (.cells #[.int .i64 f, .slice (some ⟨w.heap.size + 1 + 1 + 1, 0, none⟩) l.length l.length] 30 (0, 0))) ∧
        Hid (Tm.rd.Part (fun b => w.heap.size + 4 ≤ b) 30 wr (w.heap.size + 1 + 1 + 1) l.length (l.take k)))
      (fun i _ => l.length - (intOf i).toNat)
    case atStart =>
      refine ⟨0, Nat.zero_le _, rfl, ((((Below.refl _ w).alloc (Nat.le_refl _) _).alloc (by simp) _).alloc (by simp; omega) _).alloc (by simp; omega) _, by show _ ≤ _; simp, ?_, ?_, ?_⟩
      · exact blk_alloc (blk_alloc (by have := blk_alloc_new (w.alloc (.cells #[.int .i64 f, .slice A l.length c] 30)) (.cells #[.int .i64 0, .slice none 0 0] 30); simpa using this) _) _
      · exact blk_alloc (by have := blk_alloc_new ((w.alloc (.cells #[.int .i64 f, .slice A l.length c] 30)).alloc (.cells #[.int .i64 0, .slice none 0 0] 30)) (.cells #[.int .i64 f, .slice (some ⟨w.heap.size + 1 + 1 + 1, 0, none⟩) l.length l.length] 30); simpa using this) _
      · have := Rd.Part.start (e := 30) Tm.rd (fun b => w.heap.size + 4 ≤ b) (((w.alloc (.cells #[.int .i64 f, .slice A l.length c] 30)).alloc (.cells #[.int .i64 0, .slice none 0 0] 30)).alloc (.cells #[.int .i64 f, .slice (some ⟨w.heap.size + 1 + 1 + 1, 0, none⟩) l.length l.length] 30)) l.length #[.int .i64 0, .slice none 0 0]
        simpa [Hid, Tm.rd] using this
    case round =>
      obtain ⟨k, hk, rfl, hB, hsz, hR, hO, hP⟩ := hrel
      by_cases hlt : k < l.length
      · obtain ⟨b, o, A1, c1, rfl, hDb, hK, h0, h1⟩ := Tm.get_ (HS.out.below hB.out) k hlt
        have l1 := World.block_lt_of_cell? wr _ h0
        have hsz' : w.heap.size + 4 ≤ wr.heap.size := hsz.out
        simp only at l1
        have g0 : wr.cell? ⟨w.heap.size + 1 + 1, 1, none⟩ = some (.slice (some ⟨w.heap.size + 1 + 1 + 1, 0, none⟩) l.length l.length) := by rw [blk_cell hO.out]; rfl
        have HK := Lib.hid (fun W hb => Rd.below (d := Tm.rd) (w' := W) hK hb)
        obtain ⟨cur, hg, hgs⟩ := hP.out.blk
        have hgs' : cur.size = l.length * 2 := hgs
        have p0 : wr.cell? ⟨w.heap.size + 1 + 1 + 1, k * 2, none⟩ = some (cur.getD (k * 2) default) := by rw [blk_cell hg, Array.getElem?_eq_getElem (by omega), ← Array.getElem_eq_getD]
        have p1 : wr.cell? ⟨w.heap.size + 1 + 1 + 1, k * 2 + 1, none⟩ = some (cur.getD (k * 2 + 1) default) := by rw [blk_cell hg, Array.getElem?_eq_getElem (by omega), ← Array.getElem_eq_getD]
        have f0 : ∀ j, wr.frozen? ⟨w.heap.size + 1 + 1 + 1, j, none⟩ = false := blk_frozen hg
        have P0 := Lib.hid (And.intro p0 (And.intro p1 f0))
        clear hK hg hgs hgs' p0 p1 f0
        go_wp2_with fail
        go_region_held3 (fun w' => w'.cell? ⟨w.heap.size + 1 + 1, 1, none⟩ = some (.slice (some ⟨w.heap.size + 1 + 1 + 1, 0, none⟩) l.length l.length) ∧ w'.cell? ⟨wr.heap.size, 0, none⟩ = some (.int .i64 l[k].hd) ∧ w'.cell? ⟨wr.heap.size, 1, none⟩ = some (.slice A1 l[k].args.length c1)) (first | (with_reducible exact ⟨r0, r1, r2⟩) | (with_reducible refine ⟨cell_far2 r0 ?_, cell_far2 r1 ?_, cell_far2 r2 ?_⟩ <;> omega) | go_keep)
          (first | (go_at_call 115; refine (HI.out _ (List.getElem_mem hlt) D _ _ _ (HK.out _ (by exact ((Below.refl _ _).alloc (Nat.le_refl _) _).drew))).mono ?_; rintro e w1 ⟨A2, c2, rfl, hK2, hb2⟩; have q0 := (hb2.cell (p := ⟨w.heap.size + 1 + 1 + 1, k * 2, none⟩) (by simp; omega)).trans (cell_new P0.out.1 _); have q1 := (hb2.cell (p := ⟨w.heap.size + 1 + 1 + 1, k * 2 + 1, none⟩) (by simp; omega)).trans (cell_new P0.out.2.1 _); have q2 := fun j => (hb2.frozen (p := ⟨w.heap.size + 1 + 1 + 1, j, none⟩) (by simp; omega)).trans ((World.frozen?_alloc_old _ _ ⟨w.heap.size + 1 + 1 + 1, j, none⟩ (by simp; omega)).trans (P0.out.2.2 j)); have q3 := q2 (k * 2); have q4 := q2 (k * 2 + 1); clear q2; have r0 := (hb2.cell (p := ⟨w.heap.size + 1 + 1, 1, none⟩) (by simp; omega)).trans (cell_new g0 _); have r1 : w1.cell? ⟨wr.heap.size, 0, none⟩ = some (.int .i64 l[k].hd) := (hb2.cell (by simp)).trans (by simp [go_sem]); have r2 : w1.cell? ⟨wr.heap.size, 1, none⟩ = some (.slice A1 l[k].args.length c1) := (hb2.cell (by simp)).trans (by simp [go_sem])))
        have hb3 : Below wr.heap.size wr w1 := ((Below.refl _ wr).alloc (Nat.le_refl _) _).drew.trans (hb2.mono (by simp))
        have hs3 := hb3.size
        have HF := Lib.hid (And.intro hb3 hK2)
        clear hb3 hb2 hK2 q0 q1 q3 q4 r0 r1 r2
        go_wp2_with fail
        go_roundw
        case rel =>
          obtain ⟨hb3, hK2⟩ := HF.out
          refine ⟨k + 1, by omega, by go_num, below_set (below_set (hB.out.trans (hb3.mono (by omega))) (by omega) _) (by omega) _, by show _ ≤ _; simp [World.setCell]; omega, ?_, ?_, ?_⟩
          · exact (blk_set_ne (by omega)).trans ((blk_set_ne (by omega)).trans (blk_below hb3 (by omega) hR.out))
          · exact (blk_set_ne (by omega)).trans ((blk_set_ne (by omega)).trans (blk_below hb3 (by omega) hO.out))
          · rw [List.take_succ_eq_append_getElem hlt]
            exact snoc2 rfl (hP.out.below hb3) (Tm.rd.mono (fun b hb => by simp at hb; omega) hK2) (by simp; omega) hlt
        case measure => simp [intOf]; omega
      · obtain rfl : k = l.length := by omega
        have g0 : wr.cell? ⟨w.heap.size + 1 + 1, 0, none⟩ = some (.int .i64 f) := by rw [blk_cell hO.out]; rfl
        have g1 : wr.cell? ⟨w.heap.size + 1 + 1, 1, none⟩ = some (.slice (some ⟨w.heap.size + 1 + 1 + 1, 0, none⟩) l.length l.length) := by rw [blk_cell hO.out]; rfl
        have g2 : wr.cell? ⟨w.heap.size + 1, 0, none⟩ = some (.int .i64 0) := by rw [blk_cell hR.out]; rfl
        have g3 : wr.cell? ⟨w.heap.size + 1, 1, none⟩ = some (.slice none 0 0) := by rw [blk_cell hR.out]; rfl
        have g4 := blk_frozen hR.out 0
        have g5 := blk_frozen hR.out 1
        go_wp2_with fail
        refine bodyPost_ret (v := .agg #[.int .i64 f, .slice (some ⟨w.heap.size + 1 + 1 + 1, 0, none⟩) l.length l.length]) (by simp [results, Tryd.results115, go_sem, g2, g3]) rfl ⟨_, _, rfl, Tm.K.mk_ f (Rd.Sl.stay (D := fun b => w.heap.size + 4 ≤ b ∨ b = w.heap.size + 1 + 1 + 1) ((List.take_length (l := l) ▸ hP.out).sl rfl hle hby) (fun b hb _ => ?_) (fun b hb => by omega)), ?_⟩
        · exact (blk_set_ne (by omega)).trans (blk_set_ne (by omega))
        · exact below_set (below_set hB.out (by omega) _) (by omega) _
end Go.Proofs.YtkgkdfhipgjobaaDoor
