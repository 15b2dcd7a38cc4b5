/- strings.Builder: copyCheck, WriteString; term.joined. -/
import Derived.Test.YtkgkdfhipgjobaaDoorTerm
import Derived.Test.YtkgkdfhipgjobaaDoorProg
import Derived.Test.YtkgkdfhipgjobaaDoorShelf
import Derived.Lib.Walk
import Derived.Lib.Builder
import Derived.Lib.AppendStr
import Derived.Lib.OthersKept
import Derived.Laws.Externs
import Derived.WalkKit
import Derived.Outline
namespace Go.Proofs.YtkgkdfhipgjobaaDoor
open Go.RowKit
set_option linter.unusedVariables false
set_option linter.unusedSimpArgs false

theorem Rd.own_kind {w : World} {e : TypeId} {base size n : Nat} {v : Value} {cells : List Value} (h : w.ownsRow base e size v n cells) (g : Nat) (hg : v.ownBlock = some g) : ∃ c fz, w.heap[g]? = some (.cells c e fz) := by
  rcases h.2 with ⟨rfl, _⟩ | ⟨g', cap, cur, rfl, hb, hh, _⟩
  · simp [Value.ownBlock] at hg
  · have : g' = g := by simpa [Value.ownBlock] using hg
    subst this
    exact ⟨_, _, hh⟩
theorem bSize : (Tryd.prog.info? 91).map (·.size) = some 2 := by kernel_rfl
theorem bLies : liesAt Tryd.prog Tryd.prog.depth 91 (2 / Tryd.prog.cellsOf 91) 0 91 1 = true := by kernel_rfl
theorem infoByte_ : (Tryd.prog.info? 5).map (fun i => (i.zero, i.size, i.bytes)) = some (some (.int .u8 0), 1, 1) := by kernel_rfl

set_option maxHeartbeats 1000000 in
set_option maxRecDepth 100000 in
theorem copyCheck_used (b : Nat) (w : World) (h0 : w.cell? ⟨b, 0, none⟩ = some (.pointer (some ⟨b, 0, none⟩))) :
    Calls Tryd.prog 71 #[.pointer (some ⟨b, 0, none⟩)] w fun e w' => e = .returned (.tuple #[]) ∧ w' = w := by
  obtain ⟨j, hj, _⟩ := Option.map_eq_some_iff.1 bSize
  go_enter Tryd.func71, Tryd.ntmps71
  go_wp2
  rw [Lib.run_neq_ptr_same w _ Tryd.underlying88 hj]
  go_wp2
  go_end0
  exact ⟨rfl, rfl⟩
set_option maxHeartbeats 1000000 in
set_option maxRecDepth 100000 in
theorem copyCheck_fresh (b : Nat) (w : World) (h0 : w.cell? ⟨b, 0, none⟩ = some (.pointer none)) (hsh : w.shape? b = some (91, 2)) (hfz : w.frozen? ⟨b, 0, none⟩ = false) :
    Calls Tryd.prog 71 #[.pointer (some ⟨b, 0, none⟩)] w fun e w' => e = .returned (.tuple #[]) ∧ w' = w.setCell ⟨b, 0, none⟩ (.pointer (some ⟨b, 0, none⟩)) := by
  obtain ⟨j, hj, hjs⟩ := Option.map_eq_some_iff.1 bSize
  go_enter Tryd.func71, Tryd.ntmps71
  go_wp2
  rw [Lib.run_to_unsafe w ⟨b, 0, none⟩ Tryd.underlying88 Tryd.underlying133 hj (by rw [hjs]; decide) hsh (Nat.zero_lt_succ 1)]
  simp only [Result.andThen]
  rw [Oper.upon_value]
  go_wp2
  rw [run_callFunc_extern Tryd.func82 (by kernel_rfl) (by kernel_rfl) (by kernel_rfl) (e := Extern.AbiNoEscape.same) (by kernel_rfl)]
  rw [Lib.run_noEscape]
  simp only [Result.andThen]
  rw [Oper.upon_value]
  go_wp2
  rw [Lib.run_from_unsafe w ⟨b, 0, none⟩ Tryd.underlying133 Tryd.underlying88 hj hsh bLies]
  simp only [Result.andThen]
  rw [Oper.upon_value]
  go_wp2
  go_end0
  exact ⟨rfl, rfl⟩
theorem copyCheck_any (B b : Nat) (bs : List Value) (w : World) (h : Lib.IsBuilder 91 5 B b bs w) :
    Calls Tryd.prog 71 #[.pointer (some ⟨b, 0, none⟩)] w fun e w' => e = .returned (.tuple #[]) ∧ (Lib.BuilderAt 91 5 B b (.pointer (some ⟨b, 0, none⟩)) bs w' ∧ Below B w w' ∧ Lib.OthersKept 5 (some b) w w') := by
  rcases h with h | h
  · refine (copyCheck_fresh b w h.cell0 h.shape h.frozen0).mono ?_
    rintro e w' ⟨rfl, rfl⟩
    exact ⟨rfl, h.used _, (Below.refl B w).setCell (p := ⟨b, 0, none⟩) h.1 _, (Lib.OthersKept.refl _ _ _).setCell ⟨b, 0, none⟩ rfl _⟩
  · refine (copyCheck_used b w h.cell0).mono ?_
    rintro e w' ⟨rfl, rfl⟩
    exact ⟨rfl, h, Below.refl B _, Lib.OthersKept.refl _ _ _⟩
set_option maxHeartbeats 2000000 in
set_option maxRecDepth 100000 in
theorem writeString_any (B b : Nat) (bs : List Value) (s : ByteArray) (w : World) (h : Lib.IsBuilder 91 5 B b bs w) (hlen : bs.length + s.size ≤ 140737488355328) (hBw : B ≤ w.heap.size) :
    Calls Tryd.prog 51 #[.pointer (some ⟨b, 0, none⟩), .string s] w fun e w' => e = .returned (.tuple #[.int .i64 s.size, .nilIface]) ∧ (Lib.BuilderAt 91 5 B b (.pointer (some ⟨b, 0, none⟩)) (bs ++ Lib.strCells s) w' ∧ Below B w w' ∧ Lib.OthersKept 5 (some b) w w') := by
  obtain ⟨i0, hi, hz0, hz1, hz2⟩ := info_parts infoByte_
  have HC := Lib.hid (copyCheck_any B b bs w h)
  go_enter Tryd.func51, Tryd.ntmps51
  go_wp2_with fail
  refine Calls.mono HC.out ?_
  rintro e w1 ⟨rfl, h1, hb1, ho1⟩
  obtain ⟨hB, v, hbk, hown, hne⟩ := h1
  have c0 : w1.cell? ⟨b, 0, none⟩ = some (.pointer (some ⟨b, 0, none⟩)) := by rw [Lib.cell_of_heap hbk]; rfl
  have c1 : w1.cell? ⟨b, 1, none⟩ = some v := by rw [Lib.cell_of_heap hbk]; rfl
  go_wp2_with (at_builtin; refine Lib.wpList_append_own_string _ rfl _ _ 89 9 rfl B 5 i0 Tryd.underlying89 Tryd.underlying9 hi hz0 hz1 hz2 _ _ _ rfl hown s rfl ?c3 ?c4 ?c5 ?_)
  case c3 => unfold maxLen; omega
  case c4 => omega
  case c5 => have := hb1.size; omega
  intro v' w2 hown' hgrow _
  have hlt : b < w1.heap.size := blk_lt hbk
  have hb2 : w2.heap[b]? = some (.cells #[.pointer (some ⟨b, 0, none⟩), v] 91 (0, 0)) := by
    rw [hgrow.block b hlt (fun e => hne e.symm)]
    exact hbk
  have d0 : w2.cell? ⟨b, 0, none⟩ = some (.pointer (some ⟨b, 0, none⟩)) := by rw [Lib.cell_of_heap hb2]; rfl
  have d1 : w2.cell? ⟨b, 1, none⟩ = some v := by rw [Lib.cell_of_heap hb2]; rfl
  have f1 : w2.frozen? ⟨b, 1, none⟩ = false := Lib.frozen_of_heap hb2 1
  obtain ⟨ao, n', cap, rfl⟩ : ∃ ao n' cap, v' = .slice ao n' cap := by
    rcases hown'.2 with ⟨hv, _⟩ | ⟨g, cap, cur, hv, _⟩
    · exact ⟨_, _, _, hv⟩
    · exact ⟨_, _, _, hv⟩
  go_wp2
  go_ret2
  refine ⟨rfl, ?_, ?_, ?_⟩
  · exact Lib.BuilderAt.put (T := 91) (e := 5) hB hb2 (bs' := bs ++ Lib.strCells s) (by simpa [Lib.strCells_length] using hown') (by decide)
  · exact (hb1.grown hgrow (by have := hb1.size; omega) (fun k hk => (Rd.own_base hown k hk).1)).setCell (p := ⟨b, 1, none⟩) hB _
  · exact (ho1.grown hgrow (fun g hg => Rd.own_kind hown g hg)).setCell ⟨b, 1, none⟩ rfl _

theorem kept_cell {e : TypeId} {b : Nat} {w w' : World} (h : Lib.OthersKept e (some b) w w') {k j : Nat} {cs : Array Value} {t : TypeId} {fr : Nat × Nat} (hk : w.heap[k]? = some (.cells cs t fr)) (hb : k ≠ b) (ht : t ≠ e) : w'.heap[k]? = some (.cells cs t fr) :=
  h k _ hk (by simp; exact hb) (fun c fz hc => by simp at hc; exact ht hc.2.1)
theorem strCells_size (s : ByteArray) : (Lib.strCells s).length = s.size := by simp [Lib.strCells_length]
def wordsCells (ws : List ByteArray) : List Value := ws.flatMap Lib.strCells
theorem wordsCells_le (ws : List ByteArray) (k : Nat) : (wordsCells (ws.take k)).length ≤ (wordsCells ws).length := by
  unfold wordsCells
  have h : ws = ws.take k ++ ws.drop k := (List.take_append_drop k ws).symm
  conv => rhs; rw [h, List.flatMap_append, List.length_append]
  omega
set_option maxHeartbeats 1000000 in
set_option maxRecDepth 100000 in
/-- joined: words that lie in a block of their own. -/
theorem joined_any (B b : Nat) (bs : List Value) (ws : List ByteArray) (w : World) (g cap : Nat) (cs : Array Value) (fr : Nat × Nat) (hg : w.heap[g]? = some (.cells cs 9 fr)) (hcs : ∀ (i : Nat) (s : ByteArray), ws[i]? = some s → cs[i]? = some (Value.string s)) (hcap : ws.length ≤ cap) (hmx : cap ≤ 9223372036854775807) (hgb : g ≠ b)
    (h : Lib.IsBuilder 91 5 B b bs w) (hlen : bs.length + (wordsCells ws).length ≤ 140737488355328) (hBw : B ≤ w.heap.size) :
    Calls Tryd.prog 47 #[.pointer (some ⟨b, 0, none⟩), .slice (some ⟨g, 0, none⟩) ws.length cap] w fun e w' => e = .returned (.tuple #[]) ∧ Lib.IsBuilder 91 5 B b (bs ++ wordsCells ws) w' ∧ Below B w w' ∧ Lib.OthersKept 5 (some b) w w' := by
  have H := Lib.hid h
  have HG := Lib.hid hg
  have HCs := Lib.hid hcs
  clear h hg hcs
  go_enter Tryd.func47, Tryd.ntmps47
  go_wp2_with fail
  go_loopw [8] (fun i wr => ∃ k : Nat, k ≤ ws.length ∧ i = .int .i64 k ∧ Hid (Lib.IsBuilder 91 5 B b (bs ++ wordsCells (ws.take k)) wr ∧ Below B w wr ∧ Lib.OthersKept 5 (some b) w wr)) (fun i _ => ws.length - (intOf i).toNat)
  case atStart => exact ⟨0, Nat.zero_le _, rfl, Lib.hid ⟨by simpa [wordsCells] using H.out, Below.refl _ _, Lib.OthersKept.refl _ _ _⟩⟩
  case round =>
    obtain ⟨k, hk, rfl, hR⟩ := hrel
    by_cases hlt : k < ws.length
    · have hlss : decide ((k : Int) < (ws.length : Int)) = true := decide_eq_true (by omega)
      have hgk := kept_cell (j := 0) hR.out.2.2 HG.out hgb (by decide)
      have x0 : wr.cell? ⟨g, k, none⟩ = some (.string ws[k]) := by rw [blk_cell hgk]; exact HCs.out k _ (by simp [hlt])
      have hsn : wordsCells (ws.take (k + 1)) = wordsCells (ws.take k) ++ Lib.strCells ws[k] := by
        unfold wordsCells
        rw [List.take_succ_eq_append_getElem hlt, List.flatMap_append]
        simp
      have h1 := wordsCells_le ws (k + 1)
      have h2 := hR.out.2.1.size
      have HW := Lib.hid (writeString_any B b (bs ++ wordsCells (ws.take k)) ws[k] wr hR.out.1 (by
        rw [hsn, List.length_append, strCells_size] at h1
        rw [List.length_append]; omega) (by omega))
      have HSn := Lib.hid hsn
      clear hgk hsn h1
      go_wp2_with fail
      refine Calls.mono HW.out ?_
      rintro e w1 ⟨rfl, hi, hb1, ho1⟩
      have HR1 := Lib.hid (And.intro hi (And.intro (hR.out.2.1.trans hb1) (hR.out.2.2.trans ho1)))
      clear hi hb1 ho1
      go_wp2_with fail
      go_roundw
      case rel => exact ⟨k + 1, hlt, by go_num, Lib.hid ⟨by rw [HSn.out, ← List.append_assoc]; exact .inr HR1.out.1, HR1.out.2⟩⟩
      case measure => simp [intOf]; omega
    · obtain rfl : k = ws.length := by omega
      have hlss : decide ((ws.length : Int) < (ws.length : Int)) = false := by simp
      go_wp2_with fail
      go_end0
      have := hR.out
      rw [List.take_length] at this
      exact ⟨rfl, this⟩
end Go.Proofs.YtkgkdfhipgjobaaDoor
