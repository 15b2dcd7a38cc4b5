/- syllogismref11.Small: what it answers. -/
import Derived.Test.YtkgkdfhipgjobaaDoorRef02
import Derived.BigQuiet
namespace Go.Proofs.YtkgkdfhipgjobaaDoor
open Go.RowKit
set_option linter.unusedVariables false
set_option linter.unusedSimpArgs false

def Lt.smallB (m : Int) (x : Lt) : Bool := x.l.smallB m && x.r.smallB m
set_option maxRecDepth 100000 in
set_option maxHeartbeats 2000000 in
theorem ref11_Small (m : Int) (hm0 : 0 ≤ m) (hm1 : m ≤ 1000000) (c : List Lt) (D : Nat → Prop) (w : World) (A : Option Addr) (cap : Nat) (hc : c.length ≤ 16) (hS : Lt.rd.Sl D w A cap c) (hn : ∀ x ∈ c, x.l.nodes ≤ 1099511627776 ∧ x.r.nodes ≤ 1099511627776) :
    Calls Tryd.prog 5 #[.slice A c.length cap, .int .i64 m] w fun e w' => e = .returned (.bool (c.all (Lt.smallB m))) ∧ Below w.heap.size w w' := by
  have HS := Lib.hid hS
  have HN := Lib.hid hn
  have hgt : decide (16 < c.length) = false := by simp; omega
  clear hS hn
  go_enter Tryd.func5, Tryd.ntmps5
  go_wp2_with fail
  go_loopw [5] (fun i wr => ∃ k : Nat, k ≤ c.length ∧ i = .int .i64 k ∧ Hid (∀ x ∈ c.take k, x.smallB m = true) ∧ Hid (Below w.heap.size w wr))
    (fun i _ => c.length - (intOf i).toNat)
  case atStart => exact ⟨0, Nat.zero_le _, rfl, Lib.hid (by simp), Lib.hid (Below.refl _ _)⟩
  case round =>
    obtain ⟨k, hk, rfl, hp, hB⟩ := hrel
    by_cases hlt : k < c.length
    · obtain ⟨b, o, A1, c1, A2, c2, rfl, hD, hK1, hK2, a0, a1, a2, a3, a4⟩ := Lt.get_ (HS.out.below hB.out) k hlt
      have hcap : c.length ≤ cap ∧ cap ≤ 9223372036854775807 := ⟨HS.out.le, HS.out.mx⟩
      have hn := HN.out c[k] (List.getElem_mem hlt)
      have HL := Lib.hid (fun W (hb : Below wr.heap.size wr W) => ref02_Small m hm0 hm1 c[k].l D W A1 c1 (Rd.below (d := Tm.rd) hK1 hb) hn.1)
      have HR := Lib.hid (fun W (hb : Below wr.heap.size wr W) => ref02_Small m hm0 hm1 c[k].r D W A2 c2 (Rd.below (d := Tm.rd) hK2 hb) hn.2)
      have hsz := hB.out.size
      have htk : c.take (k + 1) = c.take k ++ [c[k]] := by rw [List.take_succ_eq_append_getElem hlt]
      have HT := Lib.hid htk
      clear hK1 hK2 hn htk
      cases h1 : c[k].l.smallB m with
      | false =>
        rw [h1] at HL
        have H1 := Lib.hid h1
        clear h1 HR
        go_wp2_with fail
        refine (HL.out _ (Below.refl _ _)).mono ?_
        rintro e w1 ⟨rfl, hb1⟩
        go_wp2_with fail
        go_ret
        refine ⟨?_, hB.out.trans (hb1.mono (by omega))⟩
        have : c.all (Lt.smallB m) = false := by
          rw [List.all_eq_false]
          exact ⟨c[k], List.getElem_mem hlt, by simp [Lt.smallB, H1.out]⟩
        rw [this]; rfl
      | true =>
        rw [h1] at HL
        have H1 := Lib.hid h1
        clear h1
        cases h2 : c[k].r.smallB m with
        | false =>
          rw [h2] at HR
          have H2 := Lib.hid h2
          clear h2
          go_wp2_with fail
          refine (HL.out _ (Below.refl _ _)).mono ?_
          rintro e w1 ⟨rfl, hb1⟩
          have r0 := (bcell hb1).1 b (o + k * 5 + 3) (World.block_lt_of_cell? wr _ a3)
          have r1 := (bcell hb1).1 b (o + k * 5 + 4) (World.block_lt_of_cell? wr _ a4)
          rw [a3] at r0
          rw [a4] at r1
          go_wp2_with fail
          refine (HR.out _ hb1).mono ?_
          rintro e w2 ⟨rfl, hb2⟩
          go_wp2_with fail
          go_ret
          refine ⟨?_, hB.out.trans ((hb1.trans (hb2.mono hb1.size)).mono (by omega))⟩
          have : c.all (Lt.smallB m) = false := by
            rw [List.all_eq_false]
            exact ⟨c[k], List.getElem_mem hlt, by simp [Lt.smallB, H2.out]⟩
          rw [this]; rfl
        | true =>
          rw [h2] at HR
          have H2 := Lib.hid h2
          clear h2
          go_wp2_with fail
          refine (HL.out _ (Below.refl _ _)).mono ?_
          rintro e w1 ⟨rfl, hb1⟩
          have r0 := (bcell hb1).1 b (o + k * 5 + 3) (World.block_lt_of_cell? wr _ a3)
          have r1 := (bcell hb1).1 b (o + k * 5 + 4) (World.block_lt_of_cell? wr _ a4)
          rw [a3] at r0
          rw [a4] at r1
          go_wp2_with fail
          refine (HR.out _ hb1).mono ?_
          rintro e w2 ⟨rfl, hb2⟩
          go_wp2_with fail
          go_roundw
          case rel =>
            refine ⟨k + 1, hlt, by go_num, Lib.hid ?_, Lib.hid (hB.out.trans ((hb1.trans (hb2.mono hb1.size)).mono (by omega)))⟩
            rw [HT.out]
            intro x hx
            rcases List.mem_append.1 hx with h | h
            · exact hp.out x h
            · obtain rfl := List.mem_singleton.1 h
              simp [Lt.smallB, H1.out, H2.out]
          case measure => simp [intOf]; omega
    · obtain rfl : k = c.length := by omega
      go_wp2_with fail
      go_ret
      refine ⟨?_, hB.out⟩
      have : c.all (Lt.smallB m) = true := List.all_eq_true.2 (by have := hp.out; rwa [List.take_length] at this)
      rw [this]; rfl
end Go.Proofs.YtkgkdfhipgjobaaDoor
