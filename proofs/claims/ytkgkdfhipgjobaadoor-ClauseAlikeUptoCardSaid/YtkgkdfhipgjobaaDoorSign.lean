/- Signatures: sign.Check, what it answers. -/
import Derived.Test.YtkgkdfhipgjobaaDoorMap
import Derived.Test.YtkgkdfhipgjobaaDoorTerm
import Derived.Test.YtkgkdfhipgjobaaDoorProg
import Derived.BigQuiet
import Derived.Deep.RegionHeld3
import Derived.Deep.DrawnRows
import Derived.Laws.StructEq
import Derived.DeepKeys4
import Derived.Maps.OwnSet
import Derived.WalkSpells
import Derived.Lib.Strings
namespace Go.Proofs.YtkgkdfhipgjobaaDoor
open Go.RowKit
set_option linter.unusedVariables false
set_option linter.unusedSimpArgs false
attribute [local go_sem ↓] Go.wp_at_zero Go.wp_at_succ

theorem ret_bool {a b : Bool} (h : a = b) : Ending.returned (.bool a) = .returned (.bool b) := by rw [h]
def letterB (c : Int) : Bool := (decide (97 ≤ c) && decide (c ≤ 122)) || (decide (65 ≤ c) && decide (c ≤ 90)) || (decide (48 ≤ c) && decide (c ≤ 57)) || c == 95
set_option maxHeartbeats 1000000 in
theorem sign_letter (c : Int) (w : World) : Calls Tryd.prog 86 #[.int .u8 c] w fun e w' => e = .returned (.bool (letterB c)) ∧ w = w' := by
  go_enter Tryd.func86, Tryd.ntmps86
  go_wp2
  all_goals
    go_ret
    refine ⟨ret_bool ?_, rfl⟩
    rw [Bool.eq_iff_iff]
    simp [letterB]
    try omega

def allB (p : Int → Bool) (s : ByteArray) : Bool := s.data.toList.all (fun c => p c.toNat)
def nameB (s : ByteArray) : Bool := !s.data.toList.isEmpty && decide (s.size ≤ 40) && allB letterB s
set_option maxHeartbeats 1000000 in
/-- every: are all bytes such? -/
theorem sign_every (g : Nat) (p : Int → Bool) (s : ByteArray) (w : World) (hs : s.size ≤ 9223372036854775807) (hent : Ent Tryd.prog g) (hg : ∀ (c : Int) (W : World), Calls Tryd.prog g #[.int .u8 c] W fun e W' => e = .returned (.bool (p c)) ∧ W = W') :
    Calls Tryd.prog 85 #[.string s, .func (.func g) #[] #[]] w fun e w' => e = .returned (.bool (allB p s)) ∧ w = w' := by
  have HG := Lib.hid hg
  have ent : ∀ (args : Array Value) (w : World), (callFunc g args).run Tryd.prog w = .ok (.enter g args) w := hent
  clear hg hent
  go_enter Tryd.func85, Tryd.ntmps85
  go_wp2_with fail
  go_loop [8] (fun i => ∃ k : Nat, k ≤ s.size ∧ i = .int .i64 k ∧ Hid (∀ x ∈ s.data.toList.take k, p x.toNat = true)) (fun i => s.size - (intOf i).toNat)
  case atStart => exact ⟨0, Nat.zero_le _, rfl, Lib.hid (by simp)⟩
  case round =>
    obtain ⟨k, hk, rfl, hp⟩ := hrel
    by_cases hlt : k < s.size
    · have hts : s.data.toList.take (k + 1) = s.data.toList.take k ++ [s[k]] := by
        rw [List.take_succ_eq_append_getElem (by simpa using hlt)]; rfl
      have HT := Lib.hid hts
      have HGk := Lib.hid (HG.out (s[k].toNat : Int))
      clear hts
      cases hb : p (s[k].toNat : Int) with
      | true =>
        rw [hb] at HGk
        have Hb := Lib.hid hb
        clear hb
        go_wp2_with fail
        refine (HGk.out _).mono ?_
        rintro e w1 ⟨rfl, rfl⟩
        go_wp2_with fail
        go_round
        case rel =>
          refine ⟨k + 1, hlt, by go_num, Lib.hid ?_⟩
          rw [HT.out]
          intro x hx
          rcases List.mem_append.1 hx with h | h
          · exact hp.out x h
          · obtain rfl := List.mem_singleton.1 h
            exact Hb.out
        case measure => simp [intOf]; omega
      | false =>
        rw [hb] at HGk
        have Hb := Lib.hid hb
        clear hb
        go_wp2_with fail
        refine (HGk.out _).mono ?_
        rintro e w1 ⟨rfl, rfl⟩
        go_wp2_with fail
        go_ret
        refine ⟨?_, rfl⟩
        have : allB p s = false := List.all_eq_false.2 ⟨s[k], Array.mem_toList_iff.2 (Array.getElem_mem _), by simp [Hb.out]⟩
        rw [this]; rfl
    · obtain rfl : k = s.size := by omega
      go_wp2_with fail
      go_ret
      refine ⟨?_, rfl⟩
      have : allB p s = true := List.all_eq_true.2 (by have := hp.out; rwa [List.take_of_length_le (by simp)] at this)
      rw [this]; rfl
theorem letter_ent : Ent Tryd.prog 86 := ent_of Tryd.func86 (by kernel_rfl) rfl
set_option maxHeartbeats 1000000 in
theorem sign_named (s : ByteArray) (w : World) :
    Calls Tryd.prog 79 #[.string s] w fun e w' => e = .returned (.bool (nameB s)) ∧ w = w' := by
  by_cases h0 : s.size = 0
  · obtain rfl : s = ⟨#[]⟩ := by cases s with | mk d => congr 1; exact Array.eq_empty_of_size_eq_zero h0
    clear h0
    go_enter Tryd.func79, Tryd.ntmps79
    go_wp2_with fail
    go_ret
    exact ⟨rfl, rfl⟩
  · have hne : s.toList.isEmpty = false := by
      rw [List.isEmpty_eq_false_iff]
      intro h
      rw [Lib.toList_data] at h
      exact h0 (by have := congrArg List.length h; simpa using this)
    have hne2 : s.data.toList.isEmpty = false := by
      rw [List.isEmpty_eq_false_iff]
      intro h
      exact h0 (by have := congrArg List.length h; simpa using this)
    by_cases h40 : s.size ≤ 40
    · have HE := Lib.hid (sign_every 86 letterB s w (by omega) letter_ent sign_letter)
      have hv : Hid (nameB s = allB letterB s) := Lib.hid (by simp [nameB, hne2, h40])
      have Hne := Lib.hid hne2
      clear hne2 h0
      go_enter Tryd.func79, Tryd.ntmps79
      go_wp2_with fail
      refine HE.out.mono ?_
      rintro e w1 ⟨rfl, rfl⟩
      go_wp2_with fail
      go_ret
      exact ⟨ret_bool hv.out.symm, rfl⟩
    · have hv : Hid (nameB s = false) := Lib.hid (by simp [nameB, h40])
      clear hne2 h0
      go_enter Tryd.func79, Tryd.ntmps79
      go_wp2_with fail
      go_ret
      exact ⟨by rw [hv.out]; rfl, rfl⟩

/-! ### symbols as values -/
def Sy.val (x : Sy) : Value := .agg #[.string x.name, .int .i64 x.arity, .bool x.pred]
def Sy.eqB (x y : Sy) : Bool := x.name.toList == y.name.toList && (x.arity == y.arity && x.pred == y.pred)
theorem Sy.eqB_iff (x y : Sy) : x.eqB y = true ↔ x = y := by
  obtain ⟨n, a, p⟩ := x
  obtain ⟨m, b, q⟩ := y
  simp only [Sy.eqB, Bool.and_eq_true, beq_iff_eq, Sy.mk.injEq, Lib.toList_data]
  constructor
  · rintro ⟨h1, h2, h3⟩
    exact ⟨WideShapes.bytes_inj h1, h2, h3⟩
  · rintro ⟨rfl, h2, h3⟩
    exact ⟨rfl, h2, h3⟩
theorem sym_under : Tryd.prog.underlying 76 = some (.struct (Tryd.prog.fieldsOf 76)) := by kernel_rfl
theorem sym_stood : Tryd.prog.stoodInHeld 76 = false := by kernel_rfl
theorem sym_fields : (Tryd.prog.fieldsOf 76).toList.map (fun f => (f.name == "_", f.type, f.offset)) = [(false, 9, 0), (false, 3, 1), (false, 4, 2)] := by kernel_rfl
theorem eqFields3 {P : Program} {d : Nat} {xs ys : Array Value} {f0 f1 f2 : Field} {a0 a1 a2 b0 b1 b2 : Value} {r0 r1 r2 : Bool} {w : World} (h0 : (f0.name == "_") = false) (h1 : (f1.name == "_") = false) (h2 : (f2.name == "_") = false)
    (pa0 : (part f0.type xs f0.offset).run P w = .ok a0 w) (pb0 : (part f0.type ys f0.offset).run P w = .ok b0 w) (e0 : (Op.equalIn d f0.type a0 b0).run P w = .ok r0 w)
    (pa1 : (part f1.type xs f1.offset).run P w = .ok a1 w) (pb1 : (part f1.type ys f1.offset).run P w = .ok b1 w) (e1 : (Op.equalIn d f1.type a1 b1).run P w = .ok r1 w)
    (pa2 : (part f2.type xs f2.offset).run P w = .ok a2 w) (pb2 : (part f2.type ys f2.offset).run P w = .ok b2 w) (e2 : (Op.equalIn d f2.type a2 b2).run P w = .ok r2 w) :
    (Op.eqFields d xs ys [f0, f1, f2]).run P w = .ok (r0 && (r1 && r2)) w := by
  have h0' : f0.name ≠ "_" := by simpa using h0
  have h1' : f1.name ≠ "_" := by simpa using h1
  have h2' : f2.name ≠ "_" := by simpa using h2
  simp only [Op.eqFields, if_pos h0', if_pos h1', if_pos h2', Sem.run_bind, pa0, pb0, e0, pa1, pb1, e1, pa2, pb2, e2, Result.andThen_ok]
  cases r0 <;> cases r1 <;> cases r2 <;> simp [pa1, pb1, e1, pa2, pb2, e2]
theorem sy_equal (x y : Sy) (d : Nat) (w : World) : (Op.equalIn (d + 2) 76 x.val y.val).run Tryd.prog w = .ok (x.eqB y) w := by
  unfold Sy.val
  rw [run_equalIn_struct w (d + 1) _ _ _ sym_under sym_stood]
  have h := sym_fields
  generalize (Tryd.prog.fieldsOf 76).toList = fs at h
  obtain ⟨f0, l0, rfl, g0, h⟩ := List.map_eq_cons_iff.1 h
  obtain ⟨f1, l1, rfl, g1, h⟩ := List.map_eq_cons_iff.1 h
  obtain ⟨f2, l2, rfl, g2, h⟩ := List.map_eq_cons_iff.1 h
  obtain rfl := List.map_eq_nil_iff.1 h
  simp only [Prod.mk.injEq] at g0 g1 g2
  obtain ⟨n0, t0, o0⟩ := g0
  obtain ⟨n1, t1, o1⟩ := g1
  obtain ⟨n2, t2, o2⟩ := g2
  · refine eqFields3 n0 n1 n2 (a0 := .string x.name) (b0 := .string y.name) ?_ ?_ ?_ (a1 := .int .i64 x.arity) (b1 := .int .i64 y.arity) ?_ ?_ ?_ (a2 := .bool x.pred) (b2 := .bool y.pred) ?_ ?_ ?_
    · rw [t0, o0]; simp [go_sem]
    · rw [t0, o0]; simp [go_sem]
    · rw [t0]; exact run_equalIn_string w d _ _ _ Tryd.underlying9
    · rw [t1, o1]; simp [go_sem]
    · rw [t1, o1]; simp [go_sem]
    · rw [t1]; exact run_equalIn_int w d _ _ _ _ _ Tryd.underlying3
    · rw [t2, o2]; simp [go_sem]
    · rw [t2, o2]; simp [go_sem]
    · rw [t2]; exact run_equalIn_bool' w d _ _ _ Tryd.underlying4
theorem sy_neq (x y : Sy) (w : World) : (binOp .neq 76 x.val y.val).run Tryd.prog w = .ok (.bool (!(x.eqB y))) w := by
  unfold Sy.val
  rw [run_neq_struct]
  have := sy_equal x y 9998 w
  unfold Sy.val at this
  rw [this]; rfl

/-! ### maps with symbols for keys -/
theorem sym_law : WideMaps.KeyLaw Tryd.prog 76 := deep_law_laid (by kernel_rfl) (m := 2) (by omega) (of_decide_eq_true (by kernel_rfl)) (by kernel_rfl) (by kernel_rfl)
theorem sym_keyType : Tryd.prog.keyType 76 = true := by kernel_rfl
theorem sym_size : Tryd.prog.types.size + 1 = (Tryd.prog.types.size - 2) + 1 + 1 + 1 := by kernel_rfl
theorem sym_formed (x : Sy) : x.val.formed Tryd.prog 76 = true := by kernel_rfl
theorem sym_cells : Tryd.prog.cellsOf 76 = 3 := by kernel_rfl
section
variable {P : Program} {d : Nat} {t : TypeId}
theorem keyLits_struct {cs : List Value} {fs : Array Field} (hu : P.underlying t = some (.struct fs)) : P.keyLits (d + 1) t cs = if cs.length = P.cellsOf t ∧ fs.all (·.name != "_") = true then (fs.toList.mapM fun f => P.keyLits d f.type ((cs.drop f.offset).take (P.cellsOf f.type))).map List.flatten else none := by
  simp only [Program.keyLits, hu]
theorem keyLits_string {s : ByteArray} (hu : P.underlying t = some .string) (h : s.size ≤ maxLen) : P.keyLits (d + 1) t [.string s] = some [.string s.data.toList] := by
  simp only [Program.keyLits, hu, if_pos h]
theorem keyLits_int {q : IntKind} {n : Int} (hu : P.underlying t = some (.int q)) (h : (Lit.int q n).wf = true) : P.keyLits (d + 1) t [.int q n] = some [.int q n] := by
  simp only [Program.keyLits, hu, h, and_self, if_true]
theorem keyLits_bool {b : Bool} (hu : P.underlying t = some .bool) : P.keyLits (d + 1) t [.bool b] = some [.bool b] := by
  simp only [Program.keyLits, hu]
end
/-- A symbol that a key may be. -/
def Sy.keyOk (x : Sy) : Prop := x.name.size ≤ maxLen ∧ -9223372036854775808 ≤ x.arity ∧ x.arity ≤ 9223372036854775807
theorem sym_key (x : Sy) (hx : x.keyOk) : ∃ l, keyOf Tryd.prog 76 x.val = some l := by
  obtain ⟨h1, h2, h3⟩ := hx
  have hw : (Lit.int .i64 x.arity).wf = true := WalkArith.wf_i64 ⟨h2, h3⟩
  have hk : ∃ ls, Tryd.prog.keyLits (Tryd.prog.types.size - 2 + 1 + 1 + 1) 76 x.val.cells.toList = some ls := by
    generalize Tryd.prog.types.size - 2 = n
    have hu := Tryd.underlying76
    rw [keyLits_struct hu, if_pos ⟨sym_cells.symm, by kernel_rfl⟩]
    simp only [List.mapM_cons, List.mapM_nil, Sy.val, Value.cells]
    have c9 : Tryd.prog.cellsOf 9 = 1 := by kernel_rfl
    have c3 : Tryd.prog.cellsOf 3 = 1 := by kernel_rfl
    have c4 : Tryd.prog.cellsOf 4 = 1 := by kernel_rfl
    simp only [c9, c3, c4, List.drop_zero, List.drop_succ_cons, List.take_succ_cons, List.take_zero]
    rw [keyLits_string Tryd.underlying9 h1, keyLits_int Tryd.underlying3 hw, keyLits_bool Tryd.underlying4]
    exact ⟨_, rfl⟩
  obtain ⟨ls, hls⟩ := hk
  unfold keyOf
  rw [Tryd.underlying76]
  simp only [sym_keyType, sym_formed, Bool.and_self, if_true, sym_size, hls]
  exact ⟨_, rfl⟩
theorem Sy.val_inj {x y : Sy} (h : x.val = y.val) : x = y := by
  obtain ⟨n, a, p⟩ := x
  obtain ⟨m, b, q⟩ := y
  simp only [Sy.val, Value.agg.injEq, Array.mk.injEq, List.cons.injEq, Value.string.injEq, Value.int.injEq, Value.bool.injEq, and_true, true_and] at h
  obtain ⟨rfl, rfl, rfl⟩ := h
  rfl
/-- Block r is a map whose keys are the symbols seen; its elements are whole numbers. -/
def SymMap (w : World) (r : Nat) (seen : List Sy) : Prop :=
  ∃ es clock, w.heap[r]? = some (.map es clock) ∧ es.toList.map (·.key) = seen.map Sy.val ∧ ∀ e ∈ es.toList, ∃ i : Int, e.val = .int .i64 i
theorem SymMap.keep {w w' : World} {r : Nat} {seen : List Sy} (h : SymMap w r seen) (hk : w'.heap[r]? = w.heap[r]?) : SymMap w' r seen := by
  obtain ⟨es, c, h1, h2⟩ := h
  exact ⟨es, c, hk.trans h1, h2⟩
theorem SymMap.lt {w : World} {r : Nat} {seen : List Sy} (h : SymMap w r seen) : r < w.heap.size := by
  obtain ⟨es, c, h1, h2⟩ := h
  exact blk_lt h1
theorem symMap_find {w : World} {es : Array MapEntry} {seen : List Sy} (hm : es.toList.map (·.key) = seen.map Sy.val) (hok : ∀ y ∈ seen, y.keyOk) (x : Sy) (hx : x.keyOk) :
    (x ∉ seen ∧ (Instr.findKey 76 x.val es.toList).run Tryd.prog w = .ok none w) ∨ (x ∈ seen ∧ ∃ j e, (Instr.findKey 76 x.val es.toList).run Tryd.prog w = .ok (some (j, e.val)) w ∧ e ∈ es.toList) := by
  obtain ⟨l, hl⟩ := sym_key x hx
  have hes : ∀ e ∈ es.toList, ∃ y ∈ seen, e.key = y.val := fun e he => by
    have : e.key ∈ es.toList.map (·.key) := List.mem_map_of_mem he
    rw [hm] at this
    obtain ⟨y, hy, h⟩ := List.mem_map.1 this
    exact ⟨y, hy, h.symm⟩
  rcases sym_law.find w hl es.toList (fun e he => by obtain ⟨y, hy, h⟩ := hes e he; rw [h]; exact sym_key y (hok y hy)) with ⟨h1, h2⟩ | ⟨j, e, h1, h2, h3⟩
  · refine .inl ⟨fun hmem => ?_, h1⟩
    have : x.val ∈ es.toList.map (·.key) := by rw [hm]; exact List.mem_map_of_mem hmem
    obtain ⟨e, he, h⟩ := List.mem_map.1 this
    exact h2 e he h
  · have he : e ∈ es.toList := List.mem_of_getElem? h2
    obtain ⟨y, hy, h⟩ := hes e he
    exact .inr ⟨by rw [← Sy.val_inj (h.symm.trans h3)]; exact hy, j, e, h1, he⟩
theorem zero_int (w : World) : (zeroValue 3).run Tryd.prog w = .ok (.int .i64 0) w := by kernel_rfl
/-- v, ok := m[k]. -/
theorem symMap_look {w : World} {r : Nat} {seen : List Sy} (h : SymMap w r seen) (hok : ∀ y ∈ seen, y.keyOk) (x : Sy) (hx : x.keyOk) :
    ∃ i : Int, ∃ b : Bool, (b = true ↔ x ∈ seen) ∧ (Instr.lookup 118 (.map (some r)) x.val true).run Tryd.prog w = .ok (.tuple #[.int .i64 i, .bool b]) w := by
  obtain ⟨es, c, hb, hm, hv⟩ := h
  obtain ⟨l, hl⟩ := sym_key x hx
  have hc := fun em => sym_law.check w em hl
  rcases symMap_find (w := w) hm hok x hx with ⟨h1, h2⟩ | ⟨h1, j, e, h2, h3⟩
  · refine ⟨0, false, by simp [h1], ?_⟩
    simp [Instr.lookup, run_underlying Tryd.underlying118, getObj, Sem.run, hb, hc, h2, zero_int]
  · obtain ⟨i, hi⟩ := hv e h3
    refine ⟨i, true, by simp [h1], ?_⟩
    simp [Instr.lookup, run_underlying Tryd.underlying118, getObj, Sem.run, hb, hc, h2, hi]
/-- m[k] = v, k being new. -/
theorem symMap_new {w : World} {r : Nat} {seen : List Sy} (h : SymMap w r seen) (hok : ∀ y ∈ seen, y.keyOk) (x : Sy) (hx : x.keyOk) (hn : x ∉ seen) (i : Int) :
    ∃ w', (Instr.mapUpdate 118 (.map (some r)) x.val (.int .i64 i)).run Tryd.prog w = .ok () w' ∧ SymMap w' r (seen ++ [x]) ∧ Chg (· = r) w w' := by
  obtain ⟨es, c, hb, hm, hv⟩ := h
  obtain ⟨l, hl⟩ := sym_key x hx
  have hc := fun em => sym_law.check w em hl
  rcases symMap_find (w := w) hm hok x hx with ⟨h1, h2⟩ | ⟨h1, j, e, h2, h3⟩
  · refine ⟨putO w r (.map (es.push ⟨x.val, .int .i64 i, c⟩) (c + 1)), ?_, ⟨_, _, putO_at hb, by simp [hm], fun e he => ?_⟩, putO_chg _ _ _⟩
    · simp [Instr.mapUpdate, run_underlying Tryd.underlying118, getObj, setObj, Sem.run, hb, hc, h2, putO]
    · rcases (by simpa using he : e ∈ es ∨ e = ⟨x.val, .int .i64 i, c⟩) with h | rfl
      · exact hv e (by simpa using h)
      · exact ⟨i, rfl⟩
  · exact absurd h1 hn
end Go.Proofs.YtkgkdfhipgjobaaDoor
