/- What a reading of an argument says about memory: from DataW.trod and the bound on its bulk to the readers Rd; terms, literals, numbers, slices of them. -/
import Derived.Test.YtkgkdfhipgjobaaDoorRows
import Derived.Test.YtkgkdfhipgjobaaDoorMove
import Derived.WalkKit
import Derived.ProofKit
import Derived.OpenShut
import Derived.Deep.Slices
import Derived.Carry
namespace Go.Proofs.YtkgkdfhipgjobaaDoor
open Go.ChangeShapes Go.WideShapes Go.RowKit
set_option linter.unusedVariables false

/-- Every reading of type t of bulk at most n comes from data that d reads, of size m at most the bulk, bearing Q. -/
def Rd.Reads {α : Type} (d : Rd α) (P : Program) (t : TypeId) (m : α → Nat) (Q : α → Prop) (n : Nat) : Prop :=
  ∀ (H : Type) (enc : TypeId × Value → H) (w : World) (sp : Nat → Bool) (fuel : Nat) (cs : List Value) (x : DataW H × List MemPlace),
    DataW.trod enc P w 0 sp true fuel t cs = some x → Rows.uptoBulk x.1 ≤ n → ∃ y, d.K (fun _ => True) w y cs ∧ m y ≤ Rows.uptoBulk x.1 ∧ Q y

theorem bulk_pos {H : Type} (d : DataW H) : 1 ≤ Rows.uptoBulk d := by
  cases d with
  | lit l => cases l <;> simp [Rows.uptoBulk]
  | _ => simp [Rows.uptoBulk]
theorem bulk_bound {H : Type} {l : List (DataW H)} (hk : Rows.uptoSmall H l = true) : Rows.uptoBulkAll l ≤ 1048576 := by
  simpa [Rows.uptoSmall] using hk
theorem sum_le {α : Type} {f : α → Nat} {x : α} : ∀ {l : List α}, x ∈ l → f x ≤ (l.map f).sum
  | y :: r, h => by
    simp only [List.map_cons, List.sum_cons]
    rcases List.mem_cons.1 h with rfl | h
    · omega
    · have := sum_le (f := f) h
      omega
theorem bulkAll_get {H : Type} {D : Nat → DataW H} : ∀ (l : List Nat) (m : Nat → Nat), (∀ i ∈ l, m i ≤ Rows.uptoBulk (D i)) → (l.map m).sum ≤ Rows.uptoBulkAll (l.map D)
  | [], _, _ => by simp
  | i :: r, m, h => by
    have h1 := h i (by simp)
    have h2 := bulkAll_get (D := D) r m (fun j hj => h j (by simp [hj]))
    simp only [List.map_cons, List.sum_cons, Rows.uptoBulkAll]
    omega
theorem bulkAll_mem {H : Type} {D : Nat → DataW H} : ∀ (l : List Nat) (i : Nat), i ∈ l → Rows.uptoBulk (D i) ≤ Rows.uptoBulkAll (l.map D)
  | [], i, h => by simp at h
  | j :: r, i, h => by
    simp only [List.map_cons, Rows.uptoBulkAll]
    rcases List.mem_cons.1 h with rfl | h
    · omega
    · have := bulkAll_mem (D := D) r i h
      omega
theorem range_map {α : Type} (l : List α) (f : Nat → α) (h : ∀ i (hi : i < l.length), l[i] = f i) : l = (List.range l.length).map f := by
  apply List.ext_getElem
  · simp
  · intro i h1 h2
    simp [h i h1]

/-- Cells that World.cells? gives lie there. -/
theorem cellsAt_of {w : World} {base b o k : Nat} {cs : List Value} (h : w.cells? base ⟨b, o, none⟩ k = some cs) : CellsAt w b o cs := by
  intro j u hj
  have h1 := (World.cells?_some h).2.2 j (by have := (World.cells?_some h).2.1; have := (List.getElem?_eq_some_iff.1 hj).1; omega)
  rw [add_plain] at h1
  rw [h1, hj]

/-- A slice's reading. -/
theorem Rd.Reads.slice {α : Type} {d : Rd α} {P : Program} {t e : TypeId} {m : α → Nat} {Q : α → Prop} {n : Nat} (h : d.Reads P e m Q n) (ht : P.underlying t = some (.slice e)) (hc : P.cellsOf e = d.sz) (hb : n * d.bytes ≤ 140737488355328)
    {H : Type} {enc : TypeId × Value → H} {w : World} {sp : Nat → Bool} {fuel : Nat} {cs : List Value} {x : DataW H × List MemPlace} (hx : DataW.trod enc P w 0 sp true fuel t cs = some x) (hn : Rows.uptoBulk x.1 ≤ n + 1) :
    ∃ A cap, ∃ ys : List α, cs = [.slice A ys.length cap] ∧ d.Sl (fun _ => True) w A cap ys ∧ (ys.map m).sum + 1 ≤ Rows.uptoBulk x.1 ∧ ys.length + 1 ≤ Rows.uptoBulk x.1 ∧ ∀ y ∈ ys, Q y := by
  rcases Go.Deep.open_slice ht hx with ⟨rfl, rfl⟩ | ⟨a, len, cap, mm, k, D, Pl, rfl, _, hl, hm, hmm, rfl, hel⟩
  · exact ⟨none, 0, [], rfl, Rd.Sl.nil d _ _ _, by simp [Rows.uptoBulk], by simp [Rows.uptoBulk], by simp⟩
  · have hmm' : len ≤ mm := by rw [hmm]; split <;> omega
    simp only [Rows.uptoBulk] at hn
    have hlen : len ≤ Rows.uptoBulkAll ((List.range len).map D) := by
      have := bulkAll_get (D := D) (List.range len) (fun _ => 1) (fun i _ => bulk_pos _)
      have e : ∀ l : List Nat, (l.map fun _ => 1).sum = l.length := fun l => by
        induction l with
        | nil => rfl
        | cons x r ih => simp [ih]; omega
      rw [e, List.length_range] at this
      exact this
    have key : ∀ i, i < len → ∃ y cs', d.K (fun _ => True) w y cs' ∧ m y ≤ Rows.uptoBulk (D i) ∧ Q y ∧ w.cells? 0 (a.add (i * d.sz)) d.sz = some cs' := by
      intro i hi
      obtain ⟨cs', h1, h2⟩ := hel i (by omega)
      rw [hc] at h1
      have := bulkAll_mem (D := D) (List.range len) i (by simpa using hi)
      obtain ⟨y, h3, h4, h5⟩ := h H enc w sp k cs' _ h2 (by dsimp only; omega)
      exact ⟨y, cs', h3, h4, h5, h1⟩
    by_cases h0 : len = 0
    · subst h0
      exact ⟨some a, cap, [], rfl, ⟨by simp, hm, by simp, .inl rfl⟩, by simp [Rows.uptoBulk], by simp [Rows.uptoBulk], by simp⟩
    · obtain ⟨b, o, spot⟩ := a
      have hspot : spot = none := by
        obtain ⟨y, cs', h3, _, _, h1⟩ := key 0 (by omega)
        have hcl := d.len h3
        have := d.pos
        have h6 := (World.cells?_some h1).2.2 0 (by omega)
        have h7 : cs'[0]? = some cs'[0] := by simp
        rw [h7] at h6
        simpa [Addr.add] using World.cell?_spot h6
      subst hspot
      let Y : Nat → α := fun i => if hi : i < len then (key i hi).choose else (key 0 (by omega)).choose
      have hY : ∀ i (hi : i < len), ∃ cs', d.K (fun _ => True) w (Y i) cs' ∧ m (Y i) ≤ Rows.uptoBulk (D i) ∧ Q (Y i) ∧ w.cells? 0 (Addr.add ⟨b, o, none⟩ (i * d.sz)) d.sz = some cs' := by
        intro i hi
        have := (key i hi).choose_spec
        simp only [Y, dif_pos hi]
        exact this
      have hlenY : ((List.range len).map Y).length = len := by simp
      refine ⟨some ⟨b, o, none⟩, cap, (List.range len).map Y, by rw [hlenY], ⟨by rw [hlenY]; exact hl, hm, ?_, .inr ⟨b, o, rfl, trivial, ?_⟩⟩, ?_, ?_, ?_⟩
      · rw [hlenY]
        exact Nat.le_trans (Nat.mul_le_mul_right _ (by omega)) hb
      · intro i y hy
        obtain ⟨hi, rfl⟩ := List.getElem?_eq_some_iff.1 hy
        rw [hlenY] at hi
        obtain ⟨cs', h3, _, _, h1⟩ := hY i hi
        rw [add_plain] at h1
        exact ⟨cs', by simpa using h3, cellsAt_of h1⟩
      · have := bulkAll_get (D := D) (List.range len) (fun i => m (Y i)) (fun i hi => by
          obtain ⟨cs', _, h4, _⟩ := hY i (by simpa using hi)
          exact h4)
        simp only [Rows.uptoBulk, List.map_map]
        have e : (List.range len).map (m ∘ Y) = (List.range len).map (fun i => m (Y i)) := rfl
        rw [e]
        omega
      · rw [hlenY]
        simp only [Rows.uptoBulk]
        omega
      · intro y hy
        obtain ⟨i, hi, rfl⟩ := List.mem_map.1 hy
        obtain ⟨cs', _, _, h5, _⟩ := hY i (by simpa using hi)
        exact h5

theorem reads_int {P : Program} {t : TypeId} (ht : P.underlying t = some (.int .i64)) (n : Nat) : Rd.int.Reads P t (fun _ => 1) fits n := by
  intro H enc w sp fuel cs x hx _
  obtain ⟨k, rfl, rfl, hw⟩ := DataW.trod_int ht hx
  refine ⟨k, rfl, bulk_pos _, ?_⟩
  simp [Lit.wf] at hw
  simp [fits]
  first | exact hw | omega
theorem reads_bool {P : Program} {t : TypeId} (ht : P.underlying t = some .bool) (n : Nat) : Rd.bool.Reads P t (fun _ => 1) (fun _ => True) n := by
  intro H enc w sp fuel cs x hx _
  obtain ⟨k, rfl, rfl⟩ := DataW.trod_bool ht hx
  exact ⟨k, rfl, bulk_pos _, trivial⟩

theorem nodesL_sum (l : List Tm) : Tm.nodesL l = (l.map Tm.nodes).sum := by
  induction l with
  | nil => rfl
  | cons t r ih => simp [Tm.nodesL, ih]

theorem reads_term {P : Program} {t : TypeId} {f0 f1 : Field} (hc : P.cellsOf t = 2) (ht : P.underlying t = some (.struct #[f0, f1])) (h0 : f0.offset = 0) (h1 : f1.offset = 1) (hi : P.underlying f0.type = some (.int .i64)) (hci : P.cellsOf f0.type = 1)
    (hs : P.underlying f1.type = some (.slice t)) (hcs : P.cellsOf f1.type = 1) : ∀ n, n ≤ 1048576 → Tm.rd.Reads P t Tm.nodes (Tm.AllH fits) n := by
  intro n
  induction n with
  | zero => intro _ H enc w sp fuel cs x hx hn; have := bulk_pos x.1; omega
  | succ n ih =>
    intro hle H enc w sp fuel cs x hx hn
    obtain ⟨y0, y1, k, rfl, hlen, e0, e1⟩ := trod_struct2 ht hx
    rw [hc] at hlen
    match cs, hlen with
    | [c0, c1], _ =>
    rw [h0, hci] at e0
    rw [h1, hcs] at e1
    simp only [Rows.uptoBulk, Rows.uptoBulkAll] at hn ⊢
    obtain ⟨z, hz, hz1, hz2⟩ := reads_int hi 1048576 H enc w sp k _ _ e0 (by omega)
    obtain ⟨A, cap, ys, g1, g2, g3, g4, g5⟩ := (ih (by omega)).slice hs (by rw [hc]; rfl) (by show n * 32 ≤ _; omega) e1 (by omega)
    have hz' : c0 = .int .i64 z := by simpa [Rd.int, Rd.scalar] using hz
    have g1' : c1 = .slice A ys.length cap := by simpa using g1
    subst hz' g1'
    refine ⟨.mk z ys, Tm.K.mk_ z g2, ?_, ?_⟩
    · rw [Tm.nodes_mk, nodesL_sum]
      omega
    · rw [Tm.AllH_mk, Tm.AllL_iff]
      exact ⟨hz2, g5⟩

def Lt.big (x : Lt) : Nat := x.l.nodes + x.r.nodes
def Lt.fit (x : Lt) : Prop := x.l.AllH fits ∧ x.r.AllH fits
theorem reads_lit {P : Program} {t e : TypeId} {f0 f1 f2 : Field} (hc : P.cellsOf t = 5) (ht : P.underlying t = some (.struct #[f0, f1, f2])) (h0 : f0.offset = 0) (h1 : f1.offset = 1) (h2 : f2.offset = 3) (hb : P.underlying f0.type = some .bool) (hcb : P.cellsOf f0.type = 1)
    (he1 : f1.type = e) (he2 : f2.type = e) (hce : P.cellsOf e = 2) {n : Nat} (h : Tm.rd.Reads P e Tm.nodes (Tm.AllH fits) n) : Lt.rd.Reads P t Lt.big Lt.fit n := by
  intro H enc w sp fuel cs x hx hn
  obtain ⟨xs, k, _, rfl, hl, hlen, hf⟩ := DataW.trod_struct ht hx
  rw [hc] at hl
  match xs, hlen with
  | [y0, y1, y2], _ =>
  match cs, hl with
  | [c0, c1, c2, c3, c4], _ =>
  have e0 := hf 0 f0 rfl
  have e1 := hf 1 f1 rfl
  have e2 := hf 2 f2 rfl
  rw [h0, hcb] at e0
  rw [h1, he1, hce] at e1
  rw [h2, he2, hce] at e2
  simp only [List.map_cons, List.map_nil, Rows.uptoBulk, Rows.uptoBulkAll] at hn ⊢
  obtain ⟨b, hb1, _, _⟩ := reads_bool hb n H enc w sp k _ _ e0 (by omega)
  obtain ⟨l, hl1, hl2, hl3⟩ := h H enc w sp k _ _ e1 (by omega)
  obtain ⟨r, hr1, hr2, hr3⟩ := h H enc w sp k _ _ e2 (by omega)
  have hb' : c0 = .bool b := by simpa [Rd.bool, Rd.scalar] using hb1
  subst hb'
  have hb0 := bulk_pos y0.1
  refine ⟨⟨b, l, r⟩, ?_, ?_, hl3, hr3⟩
  · have := Lt.mk_ b hl1 hr1
    simpa using this
  · show l.nodes + r.nodes ≤ _
    omega

/-- The arguments read as they did. -/
theorem trodAll_below {H : Type} {enc : TypeId × Value → H} {P : Program} (hl : laidOutB P = true) {W W' : World} (hb : Below W.heap.size W W') {sp : Nat → Bool} :
    ∀ {ts : List TypeId} {vs : List Value} {ds : List (DataW H)} {ps : List MemPlace}, (∀ t ∈ ts, P.readableRec t = true ∧ t < P.types.size) → DataW.TrodAll enc P W 0 (fun _ => true) true ts vs ds ps →
      (∀ p ∈ ps, p.block < W.heap.size) → (∀ p ∈ ps, sp p.block = true) → DataW.TrodAll enc P W' 0 sp true ts vs ds ps
  | [], _, _, _, _, h, _, _ => by
    obtain ⟨rfl, rfl, rfl⟩ := trodAll_nil h
    exact trodAll_mk0
  | t :: ts, _, _, _, ht, h, hlt, hs => by
    obtain ⟨v, vs1, d, ds1, a, b, rfl, rfl, rfl, h1, h2⟩ := trodAll_cons h
    have h3 := ht t (by simp)
    exact ⟨a, b, WideElems.Trod_stays hl h3.1 h3.2 h1 (fun x hx => hb.same (hlt x (by simp [hx]))) (fun x hx => hs x (by simp [hx])),
      trodAll_below hl hb (fun u hu => ht u (by simp [hu])) h2 (fun x hx => hlt x (by simp [hx])) (fun x hx => hs x (by simp [hx])), rfl⟩

/-- A law that hands back true and has laid new blocks alone: its row's end. -/
theorem post_true {H : Type} {enc : TypeId × Value → H} {P : Program} {f : Func} {s : ChangeSpec} {apart again : Bool} {W W' : World} {args : Array Value} {ds : List (DataW H)} {before : List MemPlace} {t : TypeId}
    (hvs : s.vars = []) (hfn : s.fn H ds = { results := [.lit (.bool true)], args := ds }) (hrt : f.resultTypes = #[t]) (hb : P.underlying t = some .bool) (hl : laidOutB P = true) (ht : ∀ u ∈ f.params.toList, P.readableRec u = true ∧ u < P.types.size)
    (hW : DataW.Whole enc P f.params.toList s.vars apart W args.toList ds [] before) (hg : Below W.heap.size W W') : s.post enc P f apart true false again W args (.bool true) W' := by
  have hW0 := hW
  obtain ⟨p, q, hA, hV, rfl, hfz, hnd⟩ := hW
  have hq : q = [] := by
    rw [hvs] at hV
    exact hV
  subst hq
  have hlt := hW0.lt
  simp only [List.append_nil] at hlt
  have hres : ∀ (b : Nat) (sp : Nat → Bool) (hd : Bool), DataW.TrodAll enc P W' b sp hd f.resultTypes.toList ((Value.bool true).resultList f.resultTypes.size) (s.fn H (ds ++ [])).results [] := by
    intro b sp hd
    rw [List.append_nil, hfn, hrt]
    exact trodAll_cons_mk (shut_bool hb _) trodAll_mk0
  have hargs : ∀ sp : Nat → Bool, (∀ x ∈ p, sp x.block = true) → DataW.TrodAll enc P W' 0 sp true f.params.toList args.toList (s.fn H (ds ++ [])).args p := by
    intro sp hsp
    rw [List.append_nil, hfn]
    exact trodAll_below hl hg ht hA hlt hsp
  have hvars : ∀ sp : Nat → Bool, DataW.TrodVars enc P W' sp s.vars (s.fn H (ds ++ [])).vars [] := by
    intro sp
    rw [List.append_nil, hfn, hvs]
    rfl
  have hold : ∀ x ∈ p, (fun b => decide (b < W.heap.size)) x.block = true := fun x hx => by simpa using hlt x hx
  refine ⟨ds, [], p ++ [], [], p, [], hW0, hres _ _ _, hargs _ hold, hvars _, World.keptBut_mono (fun x hx => ⟨hx, ?_⟩) (hg.frame (· ∈ p ++ [])), fun _ => ?_⟩
  · first | exact Or.inr hx | (rw [List.append_nil] at hx; exact Or.inr (.inl hx))
  · refine ⟨ok_one hrt rfl (okWide_bool_mk hb _), _, _, ([] ++ p) ++ [], ⟨[] ++ p, [], trodAll_append (hargs _ (fun _ _ => rfl)) (hres _ _ _), hvars _, rfl, ?_, ?_⟩, ?_⟩
    · intro b off hx
      have hx' : MemPlace.cell b off ∈ p := by simpa using hx
      rw [hg.frozen (p := ⟨b, off, none⟩) (hlt _ hx')]
      exact hfz b off (by simpa using hx')
    · intro ha
      have := hnd ha
      simpa using this
    · intro x hx _
      simpa using hx
end Go.Proofs.YtkgkdfhipgjobaaDoor
