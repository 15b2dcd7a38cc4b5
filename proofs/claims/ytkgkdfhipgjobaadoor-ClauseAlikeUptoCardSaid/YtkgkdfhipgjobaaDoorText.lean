/- term.Text: what it answers. -/
import Derived.Test.YtkgkdfhipgjobaaDoorBuild
import Derived.Test.YtkgkdfhipgjobaaDoorCsize
import Derived.Test.YtkgkdfhipgjobaaDoorMove
import Derived.Laws.EntriesVeiled
import Derived.Lib.ItoaNum
namespace Go.Proofs.YtkgkdfhipgjobaaDoor
open Go.RowKit
set_option linter.unusedVariables false
set_option linter.unusedSimpArgs false

def nameAt (l : List Sy) (f : Int) : List UInt8 := match l[f.toNat]? with
  | none => []
  | some s => s.name.data.toList
mutual
def Tm.text (l : List Sy) : Tm → List UInt8
  | .mk f a => if f < 0 then 88 :: Lib.decDigits (-1 - f).toNat else nameAt l f ++ (Tm.textA l true a ++ if a.length = 0 then [] else [41])
def Tm.textA (l : List Sy) (first : Bool) : List Tm → List UInt8
  | [] => []
  | t :: r => (if first then 40 else 44) :: (Tm.text l t ++ Tm.textA l false r)
end
theorem Tm.text_mk (l : List Sy) (f : Int) (a : List Tm) : (Tm.mk f a).text l = if f < 0 then 88 :: Lib.decDigits (-1 - f).toNat else nameAt l f ++ (Tm.textA l true a ++ if a.length = 0 then [] else [41]) := by rw [Tm.text]
theorem textA_snoc (l : List Sy) (t : Tm) : ∀ (a : List Tm) (first : Bool), Tm.textA l first (a ++ [t]) = Tm.textA l first a ++ ((if first && a.isEmpty then 40 else 44) :: t.text l)
  | [], first => by simp [Tm.textA]
  | x :: r, first => by
    simp only [List.cons_append, Tm.textA, textA_snoc l t r false]
    simp
theorem textA_take (l : List Sy) (a : List Tm) (k : Nat) (h : k < a.length) : Tm.textA l true (a.take (k + 1)) = Tm.textA l true (a.take k) ++ ((if k = 0 then 40 else 44) :: a[k].text l) := by
  rw [List.take_succ_eq_append_getElem h, textA_snoc]
  have : (true && (a.take k).isEmpty) = decide (k = 0) := by
    cases k with
    | zero => simp
    | succ k => cases a with
      | nil => simp at h
      | cons x r => simp
  rw [this]
  simp
theorem dec_le (n : Nat) (h : n < 100) : (Lib.decDigits n).length ≤ 2 := by
  rw [Lib.decDigits]
  split
  · simp
  · rw [Lib.decDigits]
    split
    · simp
    · omega
/-- What a text's parts are. -/
def okHd (l : List Sy) (f : Int) : Prop := f < (l.length : Int) ∧ -48 ≤ f
theorem text_le (l : List Sy) (hn : ∀ s ∈ l, s.name.size ≤ 40) : ∀ t : Tm, t.AllH (okHd l) → (t.text l).length + 1 ≤ 50 * t.nodes := by
  intro t
  induction t using Tm.ind with
  | h f a ih =>
    intro hok
    rw [Tm.AllH_mk, Tm.AllL_iff] at hok
    rw [Tm.text_mk, Tm.nodes_mk]
    have key : ∀ (a : List Tm) (b : Bool), (∀ t ∈ a, (t.text l).length + 1 ≤ 50 * t.nodes) → (Tm.textA l b a).length ≤ 50 * Tm.nodesL a := by
      intro a
      induction a with
      | nil => intro b _; simp [Tm.textA]
      | cons t r ihr =>
        intro b h
        have h1 := h t (by simp)
        have h2 := ihr false (fun t ht => h t (by simp [ht]))
        simp only [Tm.textA, Tm.nodesL, List.length_cons, List.length_append]
        omega
    split
    · have := dec_le (-1 - f).toNat (by have := hok.1.2; omega)
      simp only [List.length_cons]; omega
    · have h1 := key a true (fun t ht => ih t ht (hok.2 t ht))
      have h2 : (nameAt l f).length ≤ 40 := by
        unfold nameAt
        split
        · simp
        · rename_i s hs
          have := hn s (List.mem_of_getElem? hs)
          simpa using this
      simp only [List.length_append]
      split <;> simp <;> omega
theorem textA_le (l : List Sy) (hn : ∀ s ∈ l, s.name.size ≤ 40) : ∀ (a : List Tm) (b : Bool), (∀ t ∈ a, t.AllH (okHd l)) → (Tm.textA l b a).length ≤ 50 * Tm.nodesL a
  | [], b, _ => by simp [Tm.textA]
  | t :: r, b, h => by
    have h1 := text_le l hn t (h t (by simp))
    have h2 := textA_le l hn r false (fun t ht => h t (by simp [ht]))
    simp only [Tm.textA, Tm.nodesL, List.length_cons, List.length_append]
    omega
theorem name_le (l : List Sy) (hn : ∀ s ∈ l, s.name.size ≤ 40) (f : Int) : (nameAt l f).length ≤ 40 := by
  unfold nameAt
  split
  · simp
  · rename_i s hs
    have := hn s (List.mem_of_getElem? hs)
    simpa using this
theorem strCells_bytes (s : ByteArray) : Lib.strCells s = Lib.byteCells s.data.toList := rfl
theorem byteCells_app (a b : List UInt8) : Lib.byteCells (a ++ b) = Lib.byteCells a ++ Lib.byteCells b := by simp [Lib.byteCells]
theorem bld_below {T e : TypeId} {B b : Nat} {l : List Value} {w w' : World} (h : Lib.IsBuilder T e B b l w) (hb : Below w.heap.size w w') : Lib.IsBuilder T e B b l w' := by
  have key : ∀ p, Lib.BuilderAt T e B b p l w → Lib.BuilderAt T e B b p l w' := by
    rintro p ⟨h1, v, h2, h3, h4⟩
    exact ⟨h1, v, (hb.block b (blk_lt h2)).trans h2, Rd.own_stay h3 (fun k hk => hb.block k (Rd.own_base h3 k hk).2), h4⟩
  exact h.imp (key _) (key _)
theorem kept_below {e : TypeId} {b : Option Nat} {w w' : World} (hb : Below w.heap.size w w') : Lib.OthersKept e b w w' := fun k o hk _ _ => (hb.block k (blk_lt hk)).trans hk
theorem write_ent : Ent Tryd.prog 46 := ent_of Tryd.func46 (by kernel_rfl) rfl
/-- The closure's surroundings. -/
structure WriteW (l : List Sy) (Ds : Nat → Prop) (B b bs bw cs : Nat) (As : Option Addr) (w : World) : Prop where
  s : w.cell? ⟨bs, 0, none⟩ = some (.slice As l.length cs)
  sl : Sy.rd.Sl Ds w As cs l
  f : w.heap[bw]? = some (.cells #[.func (.func 46) #[] #[.pointer (some ⟨b, 0, none⟩), .pointer (some ⟨bs, 0, none⟩), .pointer (some ⟨bw, 0, none⟩)]] 92 (0, 0))
  ls : bs < B
  ld : ∀ k, Ds k → k < B
  nw : bw ≠ b
  bB : B ≤ w.heap.size
theorem WriteW.keep {l : List Sy} {Ds : Nat → Prop} {B b bs bw cs : Nat} {As : Option Addr} {w w' : World} (h : WriteW l Ds B b bs bw cs As w) (hb : Below B w w') (ho : Lib.OthersKept 5 (some b) w w') : WriteW l Ds B b bs bw cs As w' :=
  ⟨(hb.cell (p := ⟨bs, 0, none⟩) h.ls).trans h.s, h.sl.keep (fun k hk => hb.block k (h.ld k hk)), kept_cell (j := 0) ho h.f h.nw (by decide), h.ls, h.ld, h.nw, Nat.le_trans h.bB hb.size⟩
/-- What the closure leaves. -/
def WritePost (B b : Nat) (l : List Value) (w : World) (e : Ending) (w' : World) : Prop :=
  e = .returned (.tuple #[]) ∧ Lib.IsBuilder 91 5 B b l w' ∧ Below B w w' ∧ Lib.OthersKept 5 (some b) w w'
theorem words_one (s : ByteArray) : wordsCells [s] = Lib.byteCells s.data.toList := by simp [wordsCells, strCells_bytes]
theorem words_two (s t : ByteArray) : wordsCells [s, t] = Lib.byteCells (s.data.toList ++ t.data.toList) := by simp [wordsCells, strCells_bytes, byteCells_app]

set_option maxRecDepth 100000 in
set_option maxHeartbeats 2000000 in
theorem write_any (l : List Sy) (hn : ∀ s ∈ l, s.name.size ≤ 40) (Ds : Nat → Prop) (B b bs bw cs : Nat) (As : Option Addr) : ∀ (t : Tm), t.AllH (okHd l) → ∀ (D : Nat → Prop) (w : World) (A : Option Addr) (c : Nat) (bts : List Value),
    WriteW l Ds B b bs bw cs As w → Lib.IsBuilder 91 5 B b bts w → (∀ k, D k → k < B) → Tm.K D w t [.int .i64 t.hd, .slice A t.args.length c] → bts.length + 50 * t.nodes ≤ 140737488355328 →
    Calls Tryd.prog 46 #[.agg #[.int .i64 t.hd, .slice A t.args.length c], .pointer (some ⟨b, 0, none⟩), .pointer (some ⟨bs, 0, none⟩), .pointer (some ⟨bw, 0, none⟩)] w (WritePost B b (bts ++ Lib.byteCells (t.text l)) w) := by
  intro t
  induction t using Tm.ind with
  | h f a ih =>
  intro hok D w A c bts hW hI hD hK hlen
  obtain ⟨A', cap', e, hS⟩ := hK.open_
  simp only [Tm.hd, Tm.args, List.cons.injEq, Value.slice.injEq, and_true, true_and] at e
  obtain ⟨rfl, rfl⟩ := e
  have htl := text_le l hn _ hok
  rw [Tm.AllH_mk, Tm.AllL_iff] at hok
  rw [Tm.nodes_mk] at hlen
  have hbB := hW.bB
  have hbl : b < w.heap.size := by rcases hI with h | h <;> exact h.lt
  have HI := Lib.hid ih
  have HS := Lib.hid (fun W hb => Rd.Sl.keep (w' := W) hS (fun k hk => (hb : Below B w W).block k (hD k hk)))
  have HW := Lib.hid hW
  have HB := Lib.hid hI
  have HOk := Lib.hid hok
  have HD := Lib.hid hD
  have ent : ∀ (args : Array Value) (w : World), (callFunc 46 args).run Tryd.prog w = .ok (.enter 46 args) w := write_ent
  have hle : a.length ≤ 9223372036854775807 := Nat.le_trans hS.le hS.mx
  have hle2 := hS.le
  have hcap : c ≤ 9223372036854775807 := hS.mx
  simp only [Tm.hd, Tm.args]
  clear ih hS hW hI hD hK
  by_cases hf : f < 0
  · have d0 : decide (f < 0) = true := by simpa using hf
    obtain ⟨v, hv⟩ : ∃ v : Nat, -1 - f = (v : Int) := ⟨(-1 - f).toNat, by omega⟩
    have hv48 : v < 100 := by have := hok.1.2; omega
    have htext : Hid ((Tm.mk f a).text l = 88 :: Lib.decDigits v) := Lib.hid (by rw [Tm.text_mk, if_pos hf, hv]; rfl)
    have HIt := Lib.hid (fun W => Tryd.strconv_Itoa_small v hv48 W)
    have hf48 : -48 ≤ f := hok.1.2
    have Htl := Lib.hid htl
    clear hok htl
    go_enter Tryd.func46, Tryd.ntmps46
    go_wp2_with fail
    refine (HIt.out _).mono ?_
    rintro e w1 ⟨rfl, rfl⟩
    go_wp2_with fail
    have B2 : ∀ o0 o1, Below w.heap.size w ((w.alloc o0).alloc o1) := fun o0 o1 => ((Below.refl _ w).alloc (Nat.le_refl _) o0).alloc (by simp) o1
    have hsz : wordsCells [⟨#[88]⟩, ⟨(Lib.decDigits v).toArray⟩] = Lib.byteCells ((Tm.mk f a).text l) := by rw [words_two, htext.out]; rfl
    have hll : (Lib.byteCells ((Tm.mk f a).text l)).length + 1 ≤ 50 * (1 + Tm.nodesL a) := by rw [Lib.byteCells_length, ← Tm.nodes_mk f a]; exact Htl.out
    refine Calls.mono (joined_any B b bts [⟨#[88]⟩, ⟨(Lib.decDigits v).toArray⟩] _ (w.heap.size + 1) 2 #[.string ⟨#[88]⟩, .string ⟨(Lib.decDigits v).toArray⟩] (0, 0) (blk_at _ _ _ (by simp)) (fun i s hs => by rcases i with _ | _ | i <;> simp_all) (Nat.le_refl _) (by decide) (by omega) (bld_below HB.out (B2 _ _)) (by rw [hsz]; omega) (by simp; omega)) ?_
    rintro e w2 ⟨rfl, hi2, hb2, ho2⟩
    have HF : Hid (WritePost B b (bts ++ Lib.byteCells ((Tm.mk f a).text l)) w (.returned (.tuple #[])) w2) := Lib.hid ⟨rfl, by rw [← hsz]; exact hi2, ((B2 _ _).mono hbB).trans hb2, (kept_below (B2 _ _)).trans ho2⟩
    clear hi2 hb2 ho2 hsz hll B2
    go_wp2_with fail
    go_end0
    exact HF.out
  · have d0 : decide (f < 0) = false := by simpa using hf
    obtain ⟨i, rfl⟩ : ∃ i : Nat, f = (i : Int) := ⟨f.toNat, by omega⟩
    have hil : i < l.length := by have := hok.1.1; omega
    have hi0 : (0 : Int) ≤ (i : Int) := by omega
    have hil' : (i : Int) < (l.length : Int) := by omega
    obtain ⟨b', o', rfl, hDb', s0, -, -⟩ := Sy.get_ HW.out.sl i hil
    have hls : l.length ≤ 9223372036854775807 := Nat.le_trans HW.out.sl.le HW.out.sl.mx
    have hls2 := HW.out.sl.le
    have hls3 : cs ≤ 9223372036854775807 := HW.out.sl.mx
    have s1 := fun o => cell_new s0 o
    have sg := fun o => cell_new HW.out.s o
    have hnm : Hid (nameAt l (i : Int) = l[i].name.data.toList) := Lib.hid (by unfold nameAt; simp [hil])
    have hnl := name_le l hn (i : Int)
    have Hhn := Lib.hid hn
    have htext : Hid ((Tm.mk (i : Int) a).text l = nameAt l (i : Int) ++ (Tm.textA l true a ++ if a.length = 0 then [] else [41])) := Lib.hid (by rw [Tm.text_mk, if_neg hf])
    clear hok htl hn hf
    go_enter Tryd.func46, Tryd.ntmps46
    go_wp2_with fail
    have B2 : ∀ o0 o1, Below w.heap.size w ((w.alloc o0).alloc o1) := fun o0 o1 => ((Below.refl _ w).alloc (Nat.le_refl _) o0).alloc (by simp) o1
    have hsz : wordsCells [l[i].name] = Lib.byteCells (nameAt l (i : Int)) := by rw [words_one, hnm.out]
    refine Calls.mono (joined_any B b bts [l[i].name] _ (w.heap.size + 1) 1 #[.string l[i].name] (0, 0) (blk_at _ _ _ (by simp)) (fun j s hs => by rcases j with _ | j <;> simp_all) (Nat.le_refl _) (by decide) (by omega) (bld_below HB.out (B2 _ _)) (by rw [hsz, Lib.byteCells_length]; omega) (by simp; omega)) ?_
    rintro e w2 ⟨rfl, hi2, hb2, ho2⟩
    rw [hsz] at hi2
    have hk0 : w2.heap[w.heap.size]? = some (.cells #[.int .i64 (i : Int), .slice A a.length c] 30 (0, 0)) := kept_cell (j := 0) ho2 (blk_alloc (blk_alloc_new w _) _) (by omega) (by decide)
    have hz2 : w.heap.size + 2 ≤ w2.heap.size := by have := hb2.size; simp at this; omega
    have HB2 := Lib.hid (And.intro hi2 (And.intro (((B2 (.cells #[.int .i64 (i : Int), .slice A a.length c] 30) (.cells #[.string l[i].name] 9)).mono hbB).trans hb2) (And.intro ((kept_below (B2 (.cells #[.int .i64 (i : Int), .slice A a.length c] 30) (.cells #[.string l[i].name] 9))).trans ho2) hk0)))
    have HW2 := Lib.hid (HW.out.keep HB2.out.2.1 HB2.out.2.2.1)
    have y0 : w2.cell? ⟨w.heap.size, 1, none⟩ = some (.slice A a.length c) := by rw [blk_cell hk0]; rfl
    clear hi2 hb2 ho2 hsz B2 hk0 s0 s1 sg
    go_wp2_with fail
    go_loopw [5, 29] (fun s5 j wr => ∃ (k : Nat) (sep : ByteArray), k ≤ a.length ∧ j = .int .i64 k ∧ s5 = .string sep ∧ Hid (sep = (if k = 0 then ⟨#[40]⟩ else ⟨#[44]⟩)) ∧
        Hid (WriteW l Ds B b bs bw cs (some ⟨b', o', none⟩) wr ∧ Lib.IsBuilder 91 5 B b (bts ++ Lib.byteCells (nameAt l (i : Int) ++ Tm.textA l true (a.take k))) wr ∧ Below B w wr ∧ Lib.OthersKept 5 (some b) w wr ∧
          wr.heap[w.heap.size]? = some (.cells #[.int .i64 (i : Int), .slice A a.length c] 30 (0, 0))))
      (fun _ j _ => a.length - (intOf j).toNat)
    case atStart => exact ⟨0, _, Nat.zero_le _, rfl, rfl, rfl, Lib.hid ⟨HW2.out, by simpa [Tm.textA] using HB2.out.1, HB2.out.2⟩⟩
    case round =>
      obtain ⟨k, sep, hk, rfl, rfl, hsep, hR⟩ := hrel
      by_cases hlt : k < a.length
      · have hlss : decide ((k : Int) < (a.length : Int)) = true := decide_eq_true (by omega)
        obtain ⟨b2, o2, A1, c1, rfl, hDb2, hKk, p0, p1⟩ := Tm.get_ (HS.out wr hR.out.2.2.1) k hlt
        have hta := textA_le l Hhn.out (a.take k) true (fun t ht => HOk.out.2 t (List.mem_of_mem_take ht))
        have hsn := nodesL_snoc a k hlt
        have ht2 := nodesL_take_le a (k + 1)
        have hsl : sep.size = 1 := by rw [hsep.out]; split <;> rfl
        have hbr : b < wr.heap.size := by rcases hR.out.2.1 with h | h <;> exact h.lt
        have hz := hR.out.2.2.1.size
        have hBr := hR.out.1.bB
        have B2 : ∀ o0 o1, Below wr.heap.size wr ((wr.alloc o0).alloc o1) := fun o0 o1 => ((Below.refl _ wr).alloc (Nat.le_refl _) o0).alloc (by simp) o1
        have HIk := Lib.hid (HI.out a[k] (List.getElem_mem hlt) (HOk.out.2 _ (List.getElem_mem hlt)))
        have hw1 : wordsCells [sep] = Lib.byteCells sep.data.toList := words_one sep
        have hnew : Hid (nameAt l (i : Int) ++ Tm.textA l true (a.take (k + 1)) = nameAt l (i : Int) ++ Tm.textA l true (a.take k) ++ sep.data.toList ++ a[k].text l) := Lib.hid (by
          rw [textA_take l a k hlt, hsep.out]
          split <;> simp)
        have hpl : (Lib.byteCells (nameAt l (i : Int) ++ Tm.textA l true (a.take k))).length ≤ 40 + 50 * Tm.nodesL (a.take k) := by rw [Lib.byteCells_length, List.length_append]; omega
        have hL1 : (bts ++ Lib.byteCells (nameAt l (i : Int) ++ Tm.textA l true (a.take k))).length + (wordsCells [sep]).length ≤ 140737488355328 := by rw [hw1, Lib.byteCells_length, List.length_append]; simp only [Array.length_toList]; show _ + sep.size ≤ _; omega
        have hL2 : (bts ++ Lib.byteCells (nameAt l (i : Int) ++ Tm.textA l true (a.take k)) ++ wordsCells [sep]).length + 50 * a[k].nodes ≤ 140737488355328 := by rw [hw1, List.length_append, Lib.byteCells_length sep.data.toList, List.length_append]; simp only [Array.length_toList]; show _ + sep.size + _ ≤ _; omega
        have HL := Lib.hid (And.intro hL1 hL2)
        have HKk := Lib.hid (fun W (hb : Below wr.heap.size wr W) => Rd.below (d := Tm.rd) (w' := W) hKk hb)
        clear hta hsn ht2 hsl hL1 hL2 hpl hKk
        go_wp2_with fail
        refine Calls.mono (joined_any B b (bts ++ Lib.byteCells (nameAt l (i : Int) ++ Tm.textA l true (a.take k))) [sep] _ (wr.heap.size + 1) 1 #[.string sep] (0, 0) (blk_at _ _ _ (by simp)) (fun j s hs => by rcases j with _ | j <;> simp_all) (Nat.le_refl _) (by decide) (by omega) (bld_below hR.out.2.1 (B2 _ _)) HL.out.1 (by simp; omega)) ?_
        rintro e w3 ⟨rfl, hi3, hb3, ho3⟩
        have hbx : w3.heap[wr.heap.size]? = some (.cells #[.int .i64 a[k].hd, .slice A1 a[k].args.length c1] 30 (0, 0)) := kept_cell (j := 0) ho3 (blk_alloc (blk_alloc_new wr _) _) (by omega) (by decide)
        have h03 : w3.heap[w.heap.size]? = some (.cells #[.int .i64 (i : Int), .slice (some ⟨b2, o2, none⟩) a.length c] 30 (0, 0)) := kept_cell (j := 0) ho3 (blk_alloc (blk_alloc hR.out.2.2.2.2 _) _) (by omega) (by decide)
        have hB3 := ((B2 (.cells #[.int .i64 a[k].hd, .slice A1 a[k].args.length c1] 30) (.cells #[.string sep] 9)).mono hBr).trans hb3
        have hO3 := (kept_below (e := 5) (b := some b) (B2 (.cells #[.int .i64 a[k].hd, .slice A1 a[k].args.length c1] 30) (.cells #[.string sep] 9))).trans ho3
        have hW3 := hR.out.1.keep hB3 hO3
        have x0 : w3.cell? ⟨wr.heap.size, 0, none⟩ = some (.int .i64 a[k].hd) := by rw [blk_cell hbx]; rfl
        have x1 : w3.cell? ⟨wr.heap.size, 1, none⟩ = some (.slice A1 a[k].args.length c1) := by rw [blk_cell hbx]; rfl
        have xf : w3.cell? ⟨bw, 0, none⟩ = some (.func (.func 46) #[] #[.pointer (some ⟨b, 0, none⟩), .pointer (some ⟨bs, 0, none⟩), .pointer (some ⟨bw, 0, none⟩)]) := by rw [blk_cell hW3.f]; rfl
        have HC3 := Lib.hid (HIk.out D w3 A1 c1 (bts ++ Lib.byteCells (nameAt l (i : Int) ++ Tm.textA l true (a.take k)) ++ wordsCells [sep]) hW3 hi3 HD.out (Tm.K.keep (fun q hq => hB3.block q (HD.out q hq)) (HKk.out wr (Below.refl _ _))) HL.out.2)
        have HR3 := Lib.hid (And.intro hW3 (And.intro (hR.out.2.2.1.trans hB3) (And.intro (hR.out.2.2.2.1.trans hO3) h03)))
        clear hbx h03 hB3 hO3 hW3 hi3 hb3 ho3 B2
        go_wp2_with fail
        refine Calls.mono HC3.out ?_
        intro e w4 hp
        unfold WritePost at hp
        obtain ⟨rfl, hi4, hb4, ho4⟩ := hp
        have hbs : b ≠ w.heap.size := by omega
        have HR4 := Lib.hid (And.intro (HR3.out.1.keep hb4 ho4) (And.intro hi4 (And.intro (HR3.out.2.1.trans hb4) (And.intro (HR3.out.2.2.1.trans ho4) (kept_cell (j := 0) ho4 HR3.out.2.2.2 (Ne.symm hbs) (by decide))))))
        clear hi4 hb4 ho4
        go_wp2_with fail
        go_roundw
        case rel =>
          refine ⟨k + 1, _, hlt, by go_num, rfl, Lib.hid rfl, Lib.hid ⟨HR4.out.1, ?_, HR4.out.2.2⟩⟩
          rw [hnew.out]
          have h := HR4.out.2.1
          rw [hw1] at h
          simpa only [byteCells_app, List.append_assoc] using h
        case measure => simp [intOf]; omega
      · obtain rfl : k = a.length := by omega
        have hlss : decide ((a.length : Int) < (a.length : Int)) = false := by simp
        have z1 : wr.cell? ⟨w.heap.size, 1, none⟩ = some (.slice A a.length c) := by rw [blk_cell hR.out.2.2.2.2]; rfl
        have hbr : b < wr.heap.size := by rcases hR.out.2.1 with h | h <;> exact h.lt
        have hz := hR.out.2.2.1.size
        have hBr := hR.out.1.bB
        by_cases ha : a.length = 0
        · have d1 : decide ((0 : Int) < (a.length : Int)) = false := decide_eq_false (by omega)
          have d2 : decide (0 < a.length) = false := decide_eq_false (by omega)
          have hfin : Hid ((Tm.mk (i : Int) a).text l = nameAt l (i : Int) ++ Tm.textA l true (a.take a.length)) := Lib.hid (by rw [htext.out, if_pos ha, List.append_nil, List.take_length])
          clear ha
          go_wp2_with fail
          go_end0
          exact ⟨rfl, by rw [hfin.out]; exact hR.out.2.1, hR.out.2.2.1, hR.out.2.2.2.1⟩
        · have d1 : decide ((0 : Int) < (a.length : Int)) = true := decide_eq_true (by omega)
          have d2 : decide (0 < a.length) = true := decide_eq_true (by omega)
          have hta := textA_le l Hhn.out (a.take a.length) true (fun t ht => HOk.out.2 t (List.mem_of_mem_take ht))
          have hsz : wordsCells [(⟨#[41]⟩ : ByteArray)] = Lib.byteCells [41] := words_one _
          have hfin : Hid ((Tm.mk (i : Int) a).text l = nameAt l (i : Int) ++ Tm.textA l true (a.take a.length) ++ [41]) := Lib.hid (by rw [htext.out, if_neg ha, List.take_length, List.append_assoc])
          have hL1 : (bts ++ Lib.byteCells (nameAt l (i : Int) ++ Tm.textA l true (a.take a.length))).length + (wordsCells [(⟨#[41]⟩ : ByteArray)]).length ≤ 140737488355328 := by
            rw [List.take_length] at hta
            rw [hsz, Lib.byteCells_length, List.length_append, Lib.byteCells_length, List.length_append, List.take_length]
            simp only [List.length_singleton]
            omega
          have HL := Lib.hid hL1
          clear ha hta hL1
          have B1 : ∀ o0, Below wr.heap.size wr (wr.alloc o0) := fun o0 => (Below.refl _ wr).alloc (Nat.le_refl _) o0
          go_wp2_with fail
          refine Calls.mono (joined_any B b (bts ++ Lib.byteCells (nameAt l (i : Int) ++ Tm.textA l true (a.take a.length))) [⟨#[41]⟩] _ wr.heap.size 1 #[.string ⟨#[41]⟩] (0, 0) (blk_alloc_new _ _) (fun j s hs => by rcases j with _ | j <;> simp_all) (Nat.le_refl _) (by decide) (by omega) (bld_below hR.out.2.1 (B1 _)) HL.out (by simp; omega)) ?_
          rintro e w3 ⟨rfl, hi3, hb3, ho3⟩
          have HF := Lib.hid (And.intro hi3 (And.intro (hR.out.2.2.1.trans (((B1 (.cells #[.string ⟨#[41]⟩] 9)).mono hBr).trans hb3)) (hR.out.2.2.2.1.trans ((kept_below (e := 5) (b := some b) (B1 (.cells #[.string ⟨#[41]⟩] 9))).trans ho3))))
          clear hi3 hb3 ho3 B1
          go_wp2_with fail
          go_end0
          refine ⟨rfl, ?_, HF.out.2⟩
          rw [hfin.out]
          have h := HF.out.1
          rw [hsz] at h
          simpa only [byteCells_app, List.append_assoc] using h

theorem signL_one : ∀ (r seen : List Sy), signL r seen = 0 → ∀ s ∈ r, oneE s = 0
  | [], _, _, s, hs => by simp at hs
  | x :: r, seen, h, s, hs => by
    rw [signL] at h
    split at h
    · rename_i hne; exact absurd h hne
    · rename_i h1
      split at h
      · simp at h
      · rcases List.mem_cons.1 hs with rfl | hs
        · exact Classical.not_not.1 h1
        · exact signL_one r _ h s hs
theorem oneE_name {x : Sy} (h : oneE x = 0) : x.name.size ≤ 40 := by
  unfold oneE at h
  split at h
  · simp at h
  · rename_i hn
    have : nameB x.name = true := by simpa using hn
    simp only [nameB, Bool.and_eq_true, decide_eq_true_eq] at this
    exact this.1.2
theorem signE_names {l : List Sy} (h : signE l = 0) : ∀ s ∈ l, s.name.size ≤ 40 := by
  unfold signE at h
  split at h
  · simp at h
  · cases l with
    | nil => simp at h
    | cons t r =>
      simp only at h
      split at h
      · rename_i ht
        intro s hs
        rcases List.mem_cons.1 hs with rfl | hs
        · rw [(Sy.eqB_iff _ _).1 ht]; decide
        · exact oneE_name (signL_one r [] h s hs)
      · simp at h
theorem eachF_hd (l : List Sy) : ∀ (t : Tm) (top : Bool), (t.eachF (chkStep l) top).1 = true → t.AllH (fun f => f < (l.length : Int)) := by
  intro t
  induction t using Tm.ind with
  | h f a ih =>
    intro top h
    rw [Tm.eachF_mk] at h
    rw [Tm.AllH_mk, Tm.AllL_iff]
    by_cases hs : (chkStep l (.mk f a) top).1 = true
    · rw [if_pos hs] at h
      refine ⟨?_, ?_⟩
      · simp only [chkStep, fitB] at hs
        by_cases hf : f < 0
        · omega
        · rw [if_neg (show ¬ (Tm.mk f a).hd < 0 from hf)] at hs
          cases hg : l[(Tm.mk f a).hd.toNat]? with
          | none => rw [hg] at hs; simp at hs
          | some s =>
            have := (List.getElem?_eq_some_iff.1 hg).1
            have h2 : (Tm.mk f a).hd = f := rfl
            rw [h2] at this
            omega
      · have key : ∀ (a : List Tm) (s : Bool), (∀ t ∈ a, ∀ top, (t.eachF (chkStep l) top).1 = true → t.AllH (fun f => f < (l.length : Int))) → (Tm.eachL (chkStep l) s a).1 = true → ∀ t ∈ a, t.AllH (fun f => f < (l.length : Int)) := by
          intro a
          induction a with
          | nil => intro s _ _ t ht; simp at ht
          | cons x r ihr =>
            intro s hi he t ht
            rw [Tm.eachL] at he
            by_cases hx : (x.eachF (chkStep l) s).1 = true
            · rw [if_pos hx] at he
              rcases List.mem_cons.1 ht with rfl | ht
              · exact hi _ (by simp) s hx
              · exact ihr _ (fun t ht => hi t (by simp [ht])) he t ht
            · rw [if_neg hx] at he; simp at he
        exact key a _ ih h
    · rw [if_neg hs] at h; simp at h
theorem AllH_and {p q : Int → Prop} : ∀ t : Tm, t.AllH p → t.AllH q → t.AllH (fun f => p f ∧ q f) := by
  intro t
  induction t using Tm.ind with
  | h f a ih =>
    intro h1 h2
    rw [Tm.AllH_mk, Tm.AllL_iff] at *
    exact ⟨⟨h1.1, h2.1⟩, fun t ht => ih t ht (h1.2 t ht) (h2.2 t ht)⟩
theorem low_hd : ∀ t : Tm, t.low 48 = true → t.AllH (fun f => -48 ≤ f) := by
  intro t
  induction t using Tm.ind with
  | h f a ih =>
    intro h
    rw [Tm.low_mk] at h
    rw [Tm.AllH_mk, Tm.AllL_iff]
    by_cases hf : f < 0
    · rw [if_pos hf] at h
      simp only [Bool.and_eq_true, decide_eq_true_eq, List.isEmpty_iff] at h
      obtain ⟨h1, rfl⟩ := h
      exact ⟨by omega, by simp⟩
    · rw [if_neg hf] at h
      refine ⟨by omega, fun t ht => ih t ht ?_⟩
      have : ∀ l : List Tm, Tm.lowL 48 l = true → ∀ t ∈ l, t.low 48 = true := by
        intro l
        induction l with
        | nil => simp
        | cons x r ihr =>
          intro hl t ht
          rw [Tm.lowL] at hl
          cases hx : x.low 48 with
          | false => rw [hx] at hl; simp at hl
          | true =>
            rw [hx] at hl
            rcases List.mem_cons.1 ht with rfl | ht
            · exact hx
            · exact ihr (by simpa using hl) t ht
      exact this a h t ht
theorem termE_ok {l : List Sy} {t : Tm} (h : termE l t = 0) : signE l = 0 ∧ t.nodes ≤ 300 ∧ t.AllH (okHd l) := by
  unfold termE at h
  split at h
  · simp at h
  · rename_i h1
    split at h
    · simp at h
    · rename_i h2
      split at h
      · rename_i h3
        have hs : t.smallB 48 = true := by simpa using h2
        simp only [Tm.smallB, Bool.and_eq_true, decide_eq_true_eq] at hs
        exact ⟨Classical.not_not.1 h1, hs.1, AllH_and t (eachF_hd l t true h3) (low_hd t hs.2.2)⟩
      · simp at h
/-- What Text answers. -/
def textR (l : List Sy) (t : Tm) : List UInt8 := if termE l t = 0 then t.text l else []
theorem termE_two {l : List Sy} {t : Tm} (h : termE l t ≠ 0) : termE l t = 2 := by
  unfold termE at *
  split at h <;> rename_i h1
  · rw [if_pos h1]
  · rw [if_neg h1]
    split at h <;> rename_i h2
    · rw [if_pos h2]
    · rw [if_neg h2]
      split at h <;> rename_i h3
      · exact absurd rfl h
      · rw [if_neg h3]
set_option maxRecDepth 100000 in
set_option maxHeartbeats 2000000 in
theorem term_Text (l : List Sy) (t : Tm) (D : Nat → Prop) (w : World) (As At : Option Addr) (cs ct : Nat) (hS : Sy.rd.Sl D w As cs l) (hK : Tm.K D w t [.int .i64 t.hd, .slice At t.args.length ct]) :
    Calls Tryd.prog 34 #[.agg #[.slice As l.length cs], .agg #[.int .i64 t.hd, .slice At t.args.length ct]] w fun e w' => e = .returned (.tuple #[.string ⟨(textR l t).toArray⟩, .int .i64 (termE l t)]) ∧ Below w.heap.size w w' := by
  have HC := Lib.hid (fun W hb => term_Check l t D W As At cs ct (Rd.Sl.below (w' := W) hS hb) (Rd.below (d := Tm.rd) (w' := W) hK hb))
  have B2 := Lib.hid (fun o0 o1 => ((Below.refl w.heap.size w).alloc (Nat.le_refl _) o0).alloc (by simp) o1)
  obtain ⟨e1, he1⟩ : ∃ e1, termE l t = e1 := ⟨_, rfl⟩
  rw [he1] at HC
  by_cases h0 : e1 = 0
  · subst h0
    have hok := termE_ok he1
    have hv : Hid (textR l t = t.text l ∧ termE l t = 0) := Lib.hid ⟨by unfold textR; rw [if_pos he1], he1⟩
    have ent : ∀ (args : Array Value) (w : World), (callFunc 46 args).run Tryd.prog w = .ok (.enter 46 args) w := write_ent
    have HWr := Lib.hid (fun b bw W => write_any l (signE_names hok.1) (fun k => D k ∧ k < w.heap.size) b b w.heap.size bw cs As t hok.2.2 (fun k => D k ∧ k < w.heap.size) W At ct [])
    have HSl := Lib.hid (And.intro hS.bound (And.intro hK.bound hok.2.1))
    clear he1 hS hK hok
    go_enter Tryd.func34, Tryd.ntmps34
    go_wp2_with fail
    refine (HC.out _ (B2.out _ _)).mono ?_
    rintro e w1 ⟨rfl, hb1⟩
    have hz : w.heap.size + 2 ≤ w1.heap.size := by have := hb1.size; simp at this; omega
    have y0 : w1.cell? ⟨w.heap.size, 0, none⟩ = some (.slice As l.length cs) := (hb1.cell (by simp; omega)).trans (by simp [go_sem])
    have x0 : w1.cell? ⟨w.heap.size + 1, 0, none⟩ = some (.int .i64 t.hd) := (hb1.cell (by simp)).trans (by simp [go_sem])
    have x1 : w1.cell? ⟨w.heap.size + 1, 1, none⟩ = some (.slice At t.args.length ct) := (hb1.cell (by simp)).trans (by simp [go_sem])
    have z0 := fun o => cell_new x0 o
    have z1 := fun o => cell_new x1 o
    have z2 := fun o o' => cell_new (cell_new x0 o) o'
    have z3 := fun o o' => cell_new (cell_new x1 o) o'
    have HB1 := Lib.hid ((B2.out _ _).trans (hb1.mono (by simp; omega)))
    clear hb1
    go_wp2_with fail
    have B3 : ∀ o0 o1, Below w1.heap.size w1 ((w1.alloc o0).alloc o1) := fun o0 o1 => ((Below.refl _ w1).alloc (Nat.le_refl _) o0).alloc (by simp) o1
    have hBB : ∀ o0 o1, Below w.heap.size w ((w1.alloc o0).alloc o1) := fun o0 o1 => HB1.out.trans ((B3 o0 o1).mono (by omega))
    refine Calls.mono (HWr.out w1.heap.size (w1.heap.size + 1) _ ⟨cell_new (cell_new y0 _) _, HSl.out.1.below (hBB _ _), blk_at _ _ _ (by simp), by omega, fun k hk => by omega, by omega, by simp; omega⟩
      (bld_below (Lib.fresh_isBuilder _ _ w1) ((Below.refl _ _).alloc (Nat.le_refl _) _)) (fun k hk => by omega) (Rd.below (d := Tm.rd) HSl.out.2.1 (hBB _ _)) (by have := HSl.out.2.2; simp only [List.length_nil]; omega)) ?_
    intro e w3 hp
    unfold WritePost at hp
    obtain ⟨rfl, hi3, hb3, ho3⟩ := hp
    rw [List.nil_append] at hi3
    have hz3 := hb3.size
    simp only [World.size_alloc] at hz3
    have HS3 := Lib.hid (Tryd.Builder_String_any w1.heap.size w1.heap.size (t.text l) w3 hi3 (by omega))
    have HB3 := Lib.hid (HB1.out.trans ((((B3 (.cells #[.pointer none, .slice none 0 0] 91) (.cells #[.func (.func 46) #[] #[.pointer (some ⟨w1.heap.size, 0, none⟩), .pointer (some ⟨w.heap.size, 0, none⟩), .pointer (some ⟨w1.heap.size + 1, 0, none⟩)]] 92)).trans hb3)).mono (by omega)))
    clear hi3 hb3 ho3 B3 hBB z0 z1 z2 z3 x0 x1 y0
    go_wp2_with fail
    refine Calls.mono HS3.out ?_
    rintro e w4 ⟨rfl, hb4⟩
    go_wp2_with fail
    go_ret2
    exact ⟨by rw [hv.out.1, hv.out.2]; rfl, HB3.out.trans (hb4.mono (by omega))⟩
  · have hne0 : (e1 != 0) = true := by simpa using h0
    have hv : Hid (textR l t = [] ∧ termE l t = 2) := Lib.hid ⟨by unfold textR; rw [if_neg (by rw [he1]; exact h0)], termE_two (by rw [he1]; exact h0)⟩
    clear he1 h0 hS hK
    go_enter Tryd.func34, Tryd.ntmps34
    go_wp2_with fail
    refine (HC.out _ (B2.out _ _)).mono ?_
    rintro e w1 ⟨rfl, hb1⟩
    go_wp2_with fail
    go_ret2
    exact ⟨by rw [hv.out.1, hv.out.2]; rfl, (B2.out _ _).trans (hb1.mono (by simp; omega))⟩
end Go.Proofs.YtkgkdfhipgjobaaDoor
