/- clause.Turn; clause.Alike with the function in it: the search that they do. -/
import Derived.Test.YtkgkdfhipgjobaaDoorLit
import Derived.BigQuiet
namespace Go.Proofs.YtkgkdfhipgjobaaDoor
open Go.RowKit
set_option linter.unusedVariables false
set_option linter.unusedSimpArgs false

def Lt.turn (x : Lt) : Lt := ⟨x.neg, x.r, x.l⟩
/-- The search: what from answers, and how often it has tried. -/
def tryL (go : Sg → Sg → List Bool → Nat → Bool × Nat) (x : Lt) (σ τ : Sg) (u : List Bool) (j : Nat) : List Lt → Nat → Option (Bool × Nat) × Nat
  | [], n => (none, n)
  | y :: r, n =>
    if 10000 < n + 1 then (some (false, n + 1), n + 1) else
    match litF x y σ, litF y x τ with
    | some σ', some τ' => let q := go σ' τ' (u.set j true) (n + 1); if q.1 then (some (true, q.2), q.2) else tryL go x σ τ u j r q.2
    | _, _ => tryL go x σ τ u j r (n + 1)
theorem tryL_cons (go : Sg → Sg → List Bool → Nat → Bool × Nat) (x : Lt) (σ τ : Sg) (u : List Bool) (j : Nat) (y : Lt) (r : List Lt) (n : Nat) : tryL go x σ τ u j (y :: r) n =
    if 10000 < n + 1 then (some (false, n + 1), n + 1) else
    match litF x y σ, litF y x τ with
    | some σ', some τ' => let q := go σ' τ' (u.set j true) (n + 1); if q.1 then (some (true, q.2), q.2) else tryL go x σ τ u j r q.2
    | _, _ => tryL go x σ τ u j r (n + 1) := by rw [tryL]
def tryJ (go : Sg → Sg → List Bool → Nat → Bool × Nat) (x : Lt) (σ τ : Sg) (u : List Bool) : List Lt → Nat → Nat → Bool × Nat
  | [], _, n => (false, n)
  | y :: r, j, n =>
    if u.getD j false then tryJ go x σ τ u r (j + 1) n else
    match tryL go x σ τ u j [y, y.turn] n with
    | (some q, _) => q
    | (none, m) => tryJ go x σ τ u r (j + 1) m
def frm (b : List Lt) : List Lt → Sg → Sg → List Bool → Nat → Bool × Nat
  | [], _, _, _, n => (true, n)
  | x :: xs, σ, τ, u, n => tryJ (frm b xs) x σ τ u b 0 n

/-- Where the search stands. -/
structure ASt (w : World) (M1 D1 M2 D2 : Nat → Prop) (m1 m2 ub bt : Nat) (σ τ : Sg) (us : List Bool) (n : Nat) : Prop where
  s1 : MSt w M1 D1 m1 σ
  s2 : MSt w M2 D2 m2 τ
  u : ∃ t, w.heap[ub]? = some (.cells (us.map Value.bool).toArray t (0, 0))
  t : ∃ t, w.heap[bt]? = some (.cells #[.int .i64 n] t (0, 0))
  d12 : ∀ k, M1 k ∨ D1 k → ¬ (M2 k ∨ D2 k)
  du : ∀ k, M1 k ∨ D1 k ∨ M2 k ∨ D2 k → k ≠ ub ∧ k ≠ bt
  ut : ub ≠ bt
/-- What may turn. -/
def Wr (M1 M2 : Nat → Prop) (ub bt : Nat) (k : Nat) : Prop := M1 k ∨ M2 k ∨ k = ub ∨ k = bt
namespace ASt
variable {w w' : World} {M1 D1 M2 D2 M1' D1' M2' D2' : Nat → Prop} {m1 m2 ub bt : Nat} {σ τ σ' τ' : Sg} {us : List Bool} {n : Nat}
theorem ult (h : ASt w M1 D1 M2 D2 m1 m2 ub bt σ τ us n) : ub < w.heap.size := by obtain ⟨_, h⟩ := h.u; exact blk_lt h
theorem tlt (h : ASt w M1 D1 M2 D2 m1 m2 ub bt σ τ us n) : bt < w.heap.size := by obtain ⟨_, h⟩ := h.t; exact blk_lt h
theorem below (h : ASt w M1 D1 M2 D2 m1 m2 ub bt σ τ us n) (hb : Below w.heap.size w w') : ASt w' M1 D1 M2 D2 m1 m2 ub bt σ τ us n :=
  ⟨h.s1.below hb, h.s2.below hb, by obtain ⟨t, e⟩ := h.u; exact ⟨t, (hb.block _ h.ult).trans e⟩, by obtain ⟨t, e⟩ := h.t; exact ⟨t, (hb.block _ h.tlt).trans e⟩, h.d12, h.du, h.ut⟩
theorem tick (h : ASt w M1 D1 M2 D2 m1 m2 ub bt σ τ us n) (m : Nat) : ASt (w.setCell ⟨bt, 0, none⟩ (.int .i64 m)) M1 D1 M2 D2 m1 m2 ub bt σ τ us m := by
  have hc : Chg (fun k => k = bt) w (w.setCell ⟨bt, 0, none⟩ (.int .i64 m)) := Chg.setCell (p := ⟨bt, 0, none⟩) (Chg.refl (fun k => k = bt) w) (fun _ => rfl) _
  obtain ⟨t, e⟩ := h.u
  obtain ⟨t', e'⟩ := h.t
  exact ⟨h.s1.chg hc (fun k _ e => ⟨fun hm => (h.du k (.inl hm)).2 e, fun hm => (h.du k (.inr (.inl hm))).2 e⟩) (fun _ h => h) (fun k hk => Nat.lt_of_lt_of_le (h.s1.ltD k hk) hc.size) h.s1.dis,
    h.s2.chg hc (fun k _ e => ⟨fun hm => (h.du k (.inr (.inr (.inl hm)))).2 e, fun hm => (h.du k (.inr (.inr (.inr hm)))).2 e⟩) (fun _ h => h) (fun k hk => Nat.lt_of_lt_of_le (h.s2.ltD k hk) hc.size) h.s2.dis,
    ⟨t, (blk_set_ne h.ut).trans e⟩, ⟨t', by rw [blk_set e']; rfl⟩, h.d12, h.du, h.ut⟩
theorem use (h : ASt w M1 D1 M2 D2 m1 m2 ub bt σ τ us n) (j : Nat) (v : Bool) : ASt (w.setCell ⟨ub, j, none⟩ (.bool v)) M1 D1 M2 D2 m1 m2 ub bt σ τ (us.set j v) n := by
  have hc : Chg (fun k => k = ub) w (w.setCell ⟨ub, j, none⟩ (.bool v)) := Chg.setCell (p := ⟨ub, j, none⟩) (Chg.refl (fun k => k = ub) w) (fun _ => rfl) _
  obtain ⟨t, e⟩ := h.u
  obtain ⟨t', e'⟩ := h.t
  exact ⟨h.s1.chg hc (fun k _ e => ⟨fun hm => (h.du k (.inl hm)).1 e, fun hm => (h.du k (.inr (.inl hm))).1 e⟩) (fun _ h => h) (fun k hk => Nat.lt_of_lt_of_le (h.s1.ltD k hk) hc.size) h.s1.dis,
    h.s2.chg hc (fun k _ e => ⟨fun hm => (h.du k (.inr (.inr (.inl hm)))).1 e, fun hm => (h.du k (.inr (.inr (.inr hm)))).1 e⟩) (fun _ h => h) (fun k hk => Nat.lt_of_lt_of_le (h.s2.ltD k hk) hc.size) h.s2.dis,
    ⟨t, by rw [blk_set e]; simp [List.map_set]⟩, ⟨t', (blk_set_ne h.ut.symm).trans e'⟩, h.d12, h.du, h.ut⟩
theorem on1 (h : ASt w M1 D1 M2 D2 m1 m2 ub bt σ τ us n) (hl : Left w M1 D1 m1 σ' w' M1' D1') : ASt w' M1' D1' M2 D2 m1 m2 ub bt σ' τ us n := by
  have hm : ∀ k, k < w.heap.size → M1 k → ¬ M2 k ∧ ¬ D2 k := fun k _ hk => ⟨fun h2 => h.d12 k (.inl hk) (.inl h2), fun h2 => h.d12 k (.inl hk) (.inr h2)⟩
  have hu : ¬ M1 ub := fun hk => (h.du _ (.inl hk)).1 rfl
  have ht : ¬ M1 bt := fun hk => (h.du _ (.inl hk)).2 rfl
  obtain ⟨t, e⟩ := h.u
  obtain ⟨t', e'⟩ := h.t
  have hg : ∀ k, M1' k ∨ D1' k → (M1 k ∨ D1 k) ∨ w.heap.size ≤ k := fun k hk => by
    rcases hk with hk | hk
    · rcases hl.m k hk with h | h; exact .inl (.inl h); exact .inr h
    · rcases hl.d k hk with h | h; exact .inl (.inr h); exact .inr h
  exact ⟨hl.st, h.s2.chg hl.chg hm (fun _ h => h) (fun k hk => Nat.lt_of_lt_of_le (h.s2.ltD k hk) hl.chg.size) h.s2.dis,
    ⟨t, (hl.chg.block _ h.ult hu).trans e⟩, ⟨t', (hl.chg.block _ h.tlt ht).trans e'⟩,
    fun k hk hk2 => by
      rcases hg k hk with h' | h'
      · exact h.d12 k h' hk2
      · rcases hk2 with hk2 | hk2
        · have := h.s2.lt k hk2; omega
        · have := h.s2.ltD k hk2; omega,
    fun k hk => by
      have h1 := h.ult
      have h2 := h.tlt
      rcases hk with hk | hk | hk
      · rcases hg k (.inl hk) with h' | h'
        · exact h.du k (by rcases h' with h' | h'; exact .inl h'; exact .inr (.inl h'))
        · exact ⟨by omega, by omega⟩
      · rcases hg k (.inr hk) with h' | h'
        · exact h.du k (by rcases h' with h' | h'; exact .inl h'; exact .inr (.inl h'))
        · exact ⟨by omega, by omega⟩
      · exact h.du k (.inr (.inr hk)), h.ut⟩
theorem flip (h : ASt w M1 D1 M2 D2 m1 m2 ub bt σ τ us n) : ASt w M2 D2 M1 D1 m2 m1 ub bt τ σ us n :=
  ⟨h.s2, h.s1, h.u, h.t, fun k hk hk2 => h.d12 k hk2 hk, fun k hk => h.du k (by rcases hk with h | h | h | h; exact .inr (.inr (.inl h)); exact .inr (.inr (.inr h)); exact .inl h; exact .inr (.inl h)), h.ut⟩
theorem on2 (h : ASt w M1 D1 M2 D2 m1 m2 ub bt σ τ us n) (hl : Left w M2 D2 m2 τ' w' M2' D2') : ASt w' M1 D1 M2' D2' m1 m2 ub bt σ τ' us n := (h.flip.on1 hl).flip
theorem back1 (h : ASt w M1 D1 M2 D2 m1 m2 ub bt σ τ us n) (hs : MSt w' M1 D1 m1 σ') (hc : Chg M1 w w') : ASt w' M1 D1 M2 D2 m1 m2 ub bt σ' τ us n :=
  h.on1 ⟨fun _ h => .inl h, fun _ h => h, fun _ h => .inl h, fun _ h => h, hc, hs⟩
theorem back2 (h : ASt w M1 D1 M2 D2 m1 m2 ub bt σ τ us n) (hs : MSt w' M2 D2 m2 τ') (hc : Chg M2 w w') : ASt w' M1 D1 M2 D2 m1 m2 ub bt σ τ' us n := (h.flip.back1 hs hc).flip
end ASt

set_option maxHeartbeats 400000 in
theorem turn_any (w : World) (n : Bool) (f g : Int) (A1 A2 : Option Addr) (n1 n2 c1 c2 : Nat) :
    Calls Tryd.prog 20 #[.agg #[.bool n, .int .i64 f, .slice A1 n1 c1, .int .i64 g, .slice A2 n2 c2]] w fun e w' => e = .returned (.agg #[.bool n, .int .i64 g, .slice A2 n2 c2, .int .i64 f, .slice A1 n1 c1]) ∧ Below w.heap.size w w' := by
  go_enter Tryd.func20, Tryd.ntmps20
  go_wp2_with fail
  exact bodyPost_ret (v := .agg #[.bool n, .int .i64 g, .slice A2 n2 c2, .int .i64 f, .slice A1 n1 c1]) (by simp [results, Tryd.results20, go_sem]) rfl ⟨rfl, ((Below.refl w.heap.size w).alloc (Nat.le_refl _) _).alloc (by simp) _⟩

theorem alike1_ent : Ent Tryd.prog 19 := ent_of Tryd.func19 (by kernel_rfl) rfl

theorem litF_pre {p x : Lt} {σ σ' : Sg} (h : litF p x σ = some σ') : ∃ ext, σ' = σ ++ ext ∧ ext.length ≤ p.l.nodes + p.r.nodes := by
  unfold litF at h
  split at h
  · obtain ⟨σ1, h1, h2⟩ := Option.bind_eq_some_iff.1 h
    obtain ⟨e1, rfl, l1⟩ := termF_pre h1
    obtain ⟨e2, rfl, l2⟩ := termF_pre h2
    exact ⟨e1 ++ e2, by simp, by simp; omega⟩
  · simp at h

/-- The clauses, and where all lies. -/
structure Bx where
  Da : Nat → Prop
  a : List Lt
  b : List Lt
  Aa : Option Addr
  Ab : Option Addr
  ca : Nat
  cb : Nat
  m1 : Nat
  m2 : Nat
  ub : Nat
  cu : Nat
  ba : Nat
  bb : Nat
  bu : Nat
  bt : Nat
  bth : Nat
  bba : Nat
  bf : Nat
/-- What stays while it searches: the clauses, and the boxes. -/
structure Fix (X : Bx) (w : World) : Prop where
  sa : Lt.rd.Sl X.Da w X.Aa X.ca X.a
  sb : Lt.rd.Sl X.Da w X.Ab X.cb X.b
  lt : ∀ k, X.Da k → k < w.heap.size
  k : X.Da X.ba ∧ X.Da X.bb ∧ X.Da X.bu ∧ X.Da X.bth ∧ X.Da X.bba ∧ X.Da X.bf
  qa : w.cell? ⟨X.ba, 0, none⟩ = some (.slice X.Aa X.a.length X.ca)
  qb : w.cell? ⟨X.bb, 0, none⟩ = some (.slice X.Ab X.b.length X.cb)
  qu : w.cell? ⟨X.bu, 0, none⟩ = some (.slice (some ⟨X.ub, 0, none⟩) X.b.length X.cu)
  q1 : w.cell? ⟨X.bth, 0, none⟩ = some (.pointer (some ⟨X.m1, 0, none⟩))
  q2 : w.cell? ⟨X.bba, 0, none⟩ = some (.pointer (some ⟨X.m2, 0, none⟩))
  qf : w.cell? ⟨X.bf, 0, none⟩ = some (.func (.func 19) #[] #[.pointer (some ⟨X.ba, 0, none⟩), .pointer (some ⟨X.bb, 0, none⟩), .pointer (some ⟨X.bu, 0, none⟩), .pointer (some ⟨X.bt, 0, none⟩), .pointer (some ⟨X.bth, 0, none⟩), .pointer (some ⟨X.bba, 0, none⟩), .pointer (some ⟨X.bf, 0, none⟩)])
  cu : X.b.length ≤ X.cu ∧ X.cu ≤ 9223372036854775807
theorem Fix.stay {X : Bx} {w w' : World} (h : Fix X w) {M : Nat → Prop} (hc : Chg M w w') (hM : ∀ k, X.Da k → ¬ M k) : Fix X w' :=
  have hb : ∀ k, X.Da k → w'.heap[k]? = w.heap[k]? := fun k hk => hc.block k (h.lt k hk) (hM k hk)
  have hcl : ∀ k o, X.Da k → w'.cell? ⟨k, o, none⟩ = w.cell? ⟨k, o, none⟩ := fun k o hk => World.cell?_of_block (w := w) (hb k hk)
  ⟨h.sa.keep hb, h.sb.keep hb, fun k hk => Nat.lt_of_lt_of_le (h.lt k hk) hc.size, h.k, (hcl _ _ h.k.1).trans h.qa, (hcl _ _ h.k.2.1).trans h.qb, (hcl _ _ h.k.2.2.1).trans h.qu, (hcl _ _ h.k.2.2.2.1).trans h.q1, (hcl _ _ h.k.2.2.2.2.1).trans h.q2, (hcl _ _ h.k.2.2.2.2.2).trans h.qf, h.cu⟩

/-- The search on its way from a world. -/
structure Run (X : Bx) (w : World) (M1 M2 : Nat → Prop) (w' : World) (M1' D1' M2' D2' : Nat → Prop) (σ τ : Sg) (us : List Bool) (n : Nat) : Prop where
  st : ASt w' M1' D1' M2' D2' X.m1 X.m2 X.ub X.bt σ τ us n
  g1 : ∀ k, M1' k → M1 k ∨ w.heap.size ≤ k
  g2 : ∀ k, M2' k → M2 k ∨ w.heap.size ≤ k
  chg : Chg (Wr M1 M2 X.ub X.bt) w w'
  fix : Fix X w'
  dis : ∀ k, X.Da k → ¬ Wr M1' M2' X.ub X.bt k
namespace Run
variable {X : Bx} {w w' w2 : World} {M1 M2 M1' D1' M2' D2' N1 E1 N2 E2 : Nat → Prop} {σ τ σ' τ' : Sg} {us us' : List Bool} {n n' : Nat}
theorem step (h : Run X w M1 M2 w' M1' D1' M2' D2' σ τ us n) (hs : ASt w2 N1 E1 N2 E2 X.m1 X.m2 X.ub X.bt σ' τ' us' n') (hc : Chg (Wr M1' M2' X.ub X.bt) w' w2) (g1 : ∀ k, N1 k → M1' k ∨ w'.heap.size ≤ k) (g2 : ∀ k, N2 k → M2' k ∨ w'.heap.size ≤ k) : Run X w M1 M2 w2 N1 E1 N2 E2 σ' τ' us' n' :=
  ⟨hs, fun k hk => by
    have hz := h.chg.size
    rcases g1 k hk with hk | hk
    · exact h.g1 k hk
    · exact .inr (by omega), fun k hk => by
    have hz := h.chg.size
    rcases g2 k hk with hk | hk
    · exact h.g2 k hk
    · exact .inr (by omega), h.chg.trans hc (fun k hk hlt => by
    rcases hk with hk | hk | hk
    · rcases h.g1 k hk with hk | hk
      · exact .inl hk
      · omega
    · rcases h.g2 k hk with hk | hk
      · exact .inr (.inl hk)
      · omega
    · exact .inr (.inr hk)), h.fix.stay hc h.dis, fun k hk hw => by
    have hl := h.fix.lt k hk
    rcases hw with hw | hw | hw
    · rcases g1 k hw with hw | hw
      · exact h.dis k hk (.inl hw)
      · omega
    · rcases g2 k hw with hw | hw
      · exact h.dis k hk (.inr (.inl hw))
      · omega
    · exact h.dis k hk (.inr (.inr hw))⟩
theorem below (h : Run X w M1 M2 w' M1' D1' M2' D2' σ τ us n) (hb : Below w'.heap.size w' w2) : Run X w M1 M2 w2 M1' D1' M2' D2' σ τ us n := h.step (h.st.below hb) (Chg.of_below hb _) (fun _ h => .inl h) (fun _ h => .inl h)
theorem tick (h : Run X w M1 M2 w' M1' D1' M2' D2' σ τ us n) (m : Nat) : Run X w M1 M2 (w'.setCell ⟨X.bt, 0, none⟩ (.int .i64 m)) M1' D1' M2' D2' σ τ us m :=
  h.step (h.st.tick m) (Chg.setCell (p := ⟨X.bt, 0, none⟩) (Chg.refl _ _) (fun _ => .inr (.inr (.inr rfl))) _) (fun _ h => .inl h) (fun _ h => .inl h)
theorem tick1 (h : Run X w M1 M2 w' M1' D1' M2' D2' σ τ us n) : Run X w M1 M2 (w'.setCell ⟨X.bt, 0, none⟩ (.int .i64 ((n : Int) + 1))) M1' D1' M2' D2' σ τ us (n + 1) := by
  have := h.tick (n + 1)
  rwa [show ((n + 1 : Nat) : Int) = (n : Int) + 1 from by omega] at this
theorem use (h : Run X w M1 M2 w' M1' D1' M2' D2' σ τ us n) (j : Nat) (v : Bool) : Run X w M1 M2 (w'.setCell ⟨X.ub, j, none⟩ (.bool v)) M1' D1' M2' D2' σ τ (us.set j v) n :=
  h.step (h.st.use j v) (Chg.setCell (p := ⟨X.ub, j, none⟩) (Chg.refl _ _) (fun _ => .inr (.inr (.inl rfl))) _) (fun _ h => .inl h) (fun _ h => .inl h)
theorem on1 (h : Run X w M1 M2 w' M1' D1' M2' D2' σ τ us n) (hl : Left w' M1' D1' X.m1 σ' w2 N1 E1) : Run X w M1 M2 w2 N1 E1 M2' D2' σ' τ us n :=
  h.step (h.st.on1 hl) (hl.chg.mono (fun _ _ h => .inl h)) hl.m (fun _ h => .inl h)
theorem on2 (h : Run X w M1 M2 w' M1' D1' M2' D2' σ τ us n) (hl : Left w' M2' D2' X.m2 τ' w2 N2 E2) : Run X w M1 M2 w2 M1' D1' N2 E2 σ τ' us n :=
  h.step (h.st.on2 hl) (hl.chg.mono (fun _ _ h => .inr (.inl h))) (fun _ h => .inl h) hl.m
theorem back1 (h : Run X w M1 M2 w' M1' D1' M2' D2' σ τ us n) (hs : MSt w2 M1' D1' X.m1 σ') (hc : Chg M1' w' w2) : Run X w M1 M2 w2 M1' D1' M2' D2' σ' τ us n :=
  h.step (h.st.back1 hs hc) (hc.mono (fun _ _ h => .inl h)) (fun _ h => .inl h) (fun _ h => .inl h)
theorem back2 (h : Run X w M1 M2 w' M1' D1' M2' D2' σ τ us n) (hs : MSt w2 M2' D2' X.m2 τ') (hc : Chg M2' w' w2) : Run X w M1 M2 w2 M1' D1' M2' D2' σ τ' us n :=
  h.step (h.st.back2 hs hc) (hc.mono (fun _ _ h => .inr (.inl h))) (fun _ h => .inl h) (fun _ h => .inl h)
theorem self (h : Run X w M1 M2 w' M1' D1' M2' D2' σ τ us n) : Run X w' M1' M2' w' M1' D1' M2' D2' σ τ us n := ⟨h.st, fun _ h => .inl h, fun _ h => .inl h, Chg.refl _ _, h.fix, h.dis⟩
theorem trans (h : Run X w M1 M2 w' M1' D1' M2' D2' σ τ us n) (k : Run X w' M1' M2' w2 N1 E1 N2 E2 σ' τ' us' n') : Run X w M1 M2 w2 N1 E1 N2 E2 σ' τ' us' n' := h.step k.st k.chg k.g1 k.g2
theorem k0 {α : Type} {d : Rd α} {y : α} {cs : List Value} (s : Run X w M1 M2 w M1' D1' M2' D2' σ τ us n) (hc : Chg (Wr M1 M2 X.ub X.bt) w w') (hg1 : ∀ k, M1 k → M1' k) (hg2 : ∀ k, M2 k → M2' k) (hK : d.K X.Da w y cs) : d.K X.Da w' y cs :=
  Rd.chg hK hc (fun k hk hw => s.dis k hk (by rcases hw with h | h | h; exact .inl (hg1 k h); exact .inr (.inl (hg2 k h)); exact .inr (.inr h)))
theorem cell0 (s : Run X w M1 M2 w M1 D1' M2 D2' σ τ us n) (hc : Chg (Wr M1 M2 X.ub X.bt) w w') {b o : Nat} {v : Value} (hb : X.Da b) (h : w.cell? ⟨b, o, none⟩ = some v) : w'.cell? ⟨b, o, none⟩ = some v := (hc.cell (p := ⟨b, o, none⟩) (s.fix.lt b hb) (s.dis b hb)).trans h
end Run

theorem idx0 (v0 v1 v2 v3 v4 v5 v6 v7 v8 v9 : Value) (w : World) : (Instr.index 56 (.agg #[v0, v1, v2, v3, v4, v5, v6, v7, v8, v9]) (.int .i64 0)).run Tryd.prog w = .ok (.agg #[v0, v1, v2, v3, v4]) w := by kernel_rfl
theorem idx1 (v0 v1 v2 v3 v4 v5 v6 v7 v8 v9 : Value) (w : World) : (Instr.index 56 (.agg #[v0, v1, v2, v3, v4, v5, v6, v7, v8, v9]) (.int .i64 1)).run Tryd.prog w = .ok (.agg #[v5, v6, v7, v8, v9]) w := by kernel_rfl

/-- What from answers from a state. -/
def FromPost (X : Bx) (w : World) (M1 M2 : Nat → Prop) (σ τ : Sg) (us : List Bool) (r : Bool × Nat) (e : Ending) (w' : World) : Prop :=
  e = .returned (.bool r.1) ∧ Chg (Wr M1 M2 X.ub X.bt) w w' ∧ (r.1 = false → ∃ M1' D1' M2' D2', Run X w M1 M2 w' M1' D1' M2' D2' σ τ us r.2)
/-- Behind one literal's trials. -/
def contJ (go : Sg → Sg → List Bool → Nat → Bool × Nat) (x : Lt) (σ τ : Sg) (u : List Bool) (r : List Lt) (j : Nat) : Option (Bool × Nat) × Nat → Bool × Nat
  | (some q, _) => q
  | (none, m) => tryJ go x σ τ u r (j + 1) m
theorem tryJ_cons (go : Sg → Sg → List Bool → Nat → Bool × Nat) (x : Lt) (σ τ : Sg) (u : List Bool) (y : Lt) (r : List Lt) (j n : Nat) : tryJ go x σ τ u (y :: r) j n = if u.getD j false then tryJ go x σ τ u r (j + 1) n else contJ go x σ τ u r j (tryL go x σ τ u j [y, y.turn] n) := by
  rw [tryJ]
  split
  · rfl
  · unfold contJ
    split <;> simp_all

theorem tryL_le (go : Sg → Sg → List Bool → Nat → Bool × Nat) (x : Lt) (σ τ : Sg) (u : List Bool) (j K : Nat) (hgo : ∀ σ τ u n, n ≤ 10000 → (go σ τ u n).2 ≤ 10000 + K) : ∀ (l : List Lt) (n : Nat), n ≤ 10000 + K →
    (∀ q m, tryL go x σ τ u j l n = (some q, m) → q.2 ≤ 10000 + K + 1) ∧ (∀ m, tryL go x σ τ u j l n = (none, m) → m ≤ 10000 + K)
  | [], n, hn => ⟨fun q m h => by simp [tryL] at h, fun m h => by simp [tryL] at h; omega⟩
  | y :: r, n, hn => by
    rw [tryL]
    split
    · exact ⟨fun q m h => by simp at h; rw [← h.1]; show n + 1 ≤ _; omega, fun m h => by simp at h⟩
    · rename_i hov
      split
      · rename_i σ' τ' _ _
        have := hgo σ' τ' (u.set j true) (n + 1) (by omega)
        dsimp only
        split
        · exact ⟨fun q m h => by simp at h; rw [← h.1]; show _ ≤ _; omega, fun m h => by simp at h⟩
        · exact tryL_le go x σ τ u j K hgo r _ this
      · exact tryL_le go x σ τ u j K hgo r _ (by omega)
theorem tryJ_le (go : Sg → Sg → List Bool → Nat → Bool × Nat) (x : Lt) (σ τ : Sg) (u : List Bool) (K : Nat) (hgo : ∀ σ τ u n, n ≤ 10000 → (go σ τ u n).2 ≤ 10000 + K) : ∀ (l : List Lt) (j n : Nat), n ≤ 10000 + K → (tryJ go x σ τ u l j n).2 ≤ 10000 + K + 1
  | [], j, n, hn => by rw [tryJ]; show n ≤ _; omega
  | y :: r, j, n, hn => by
    rw [tryJ_cons]
    split
    · exact tryJ_le go x σ τ u K hgo r (j + 1) n hn
    · have h := tryL_le go x σ τ u j K hgo [y, y.turn] n hn
      rcases hq : tryL go x σ τ u j [y, y.turn] n with ⟨q | q, m⟩
      · exact tryJ_le go x σ τ u K hgo r (j + 1) m (h.2 m hq)
      · exact h.1 q m hq
theorem frm_le (b : List Lt) : ∀ (l : List Lt) (σ τ : Sg) (u : List Bool) (n : Nat), n ≤ 10000 → (frm b l σ τ u n).2 ≤ 10000 + l.length
  | [], σ, τ, u, n, hn => by rw [frm]; show n ≤ _; omega
  | x :: xs, σ, τ, u, n, hn => by
    rw [frm]
    have := tryJ_le (frm b xs) x σ τ u xs.length (frm_le b xs) b 0 n (by omega)
    simp only [List.length_cons]
    omega

theorem Run.go {X : Bx} {w w' w2 : World} {M1 M2 N1 E1 N2 E2 : Nat → Prop} {σ τ : Sg} {us : List Bool} {n : Nat} (h : Run X w M1 M2 w' N1 E1 N2 E2 σ τ us n) (hc : Chg (Wr N1 N2 X.ub X.bt) w' w2) : Fix X w2 ∧ Chg (Wr M1 M2 X.ub X.bt) w w2 :=
  ⟨h.fix.stay hc h.dis, h.chg.trans hc (fun k hk hlt => by
    rcases hk with hk | hk | hk
    · rcases h.g1 k hk with hk | hk
      · exact .inl hk
      · omega
    · rcases h.g2 k hk with hk | hk
      · exact .inr (.inl hk)
      · omega
    · exact .inr (.inr hk))⟩
theorem sg_back {σ σ' : Sg} {r : Option Sg} (hp : ∀ s, r = some s → ∃ ext, s = σ ++ ext) : σ.length ≤ (r.getD σ).length ∧ (r.getD σ).take σ.length = σ := by
  cases r with
  | none => exact ⟨Nat.le_refl _, List.take_length⟩
  | some s => obtain ⟨ext, rfl⟩ := hp s rfl; exact ⟨by simp, List.take_left⟩

theorem take_step {α : Type} {a : List α} {x : α} {xs : List α} {i : Nat} (h : a = a.take i ++ x :: xs) : a = a.take (i + 1) ++ xs := by
  have h1 : a.drop i = x :: xs := List.append_cancel_left ((List.take_append_drop i a).trans h)
  have h2 : a.drop (i + 1) = xs := by rw [← List.tail_drop, h1]; rfl
  exact (List.take_append_drop (i + 1) a).symm.trans (by rw [h2])

/-- The cells that a round reads. -/
theorem Run.cells {X : Bx} {w W : World} {M1 M2 D1 D2 : Nat → Prop} {σ τ : Sg} {us : List Bool} {n : Nat} (s : Run X w M1 M2 w M1 D1 M2 D2 σ τ us n) (hf : Fix X W) (hc0 : Chg (Wr M1 M2 X.ub X.bt) w W) {ga oa i c1 c2 bx : Nat} {A1 A2 : Option Addr} {x : Lt} {v0 v1 v2 v3 v4 : Value} {t : TypeId} (hA : X.Aa = some ⟨ga, oa, none⟩) (hD : X.Da ga)
    (hc : w.cell? ⟨ga, oa + i * 5, none⟩ = some (.bool x.neg) ∧ w.cell? ⟨ga, oa + i * 5 + 1, none⟩ = some (.int .i64 x.l.hd) ∧ w.cell? ⟨ga, oa + i * 5 + 2, none⟩ = some (.slice A1 x.l.args.length c1) ∧ w.cell? ⟨ga, oa + i * 5 + 3, none⟩ = some (.int .i64 x.r.hd) ∧ w.cell? ⟨ga, oa + i * 5 + 4, none⟩ = some (.slice A2 x.r.args.length c2))
    (hb : W.heap[bx]? = some (.cells #[v0, v1, v2, v3, v4] t (0, 0))) :
    W.cell? ⟨X.bth, 0, none⟩ = some (.pointer (some ⟨X.m1, 0, none⟩)) ∧ W.cell? ⟨X.ba, 0, none⟩ = some (.slice (some ⟨ga, oa, none⟩) X.a.length X.ca) ∧
    W.cell? ⟨ga, oa + i * 5, none⟩ = some (.bool x.neg) ∧ W.cell? ⟨ga, oa + i * 5 + 1, none⟩ = some (.int .i64 x.l.hd) ∧ W.cell? ⟨ga, oa + i * 5 + 2, none⟩ = some (.slice A1 x.l.args.length c1) ∧ W.cell? ⟨ga, oa + i * 5 + 3, none⟩ = some (.int .i64 x.r.hd) ∧ W.cell? ⟨ga, oa + i * 5 + 4, none⟩ = some (.slice A2 x.r.args.length c2) ∧
    W.cell? ⟨bx, 0, none⟩ = some v0 ∧ W.cell? ⟨bx, 1, none⟩ = some v1 ∧ W.cell? ⟨bx, 2, none⟩ = some v2 ∧ W.cell? ⟨bx, 3, none⟩ = some v3 ∧ W.cell? ⟨bx, 4, none⟩ = some v4 ∧
    W.cell? ⟨X.bba, 0, none⟩ = some (.pointer (some ⟨X.m2, 0, none⟩)) ∧
    W.cell? ⟨X.bf, 0, none⟩ = some (.func (.func 19) #[] #[.pointer (some ⟨X.ba, 0, none⟩), .pointer (some ⟨X.bb, 0, none⟩), .pointer (some ⟨X.bu, 0, none⟩), .pointer (some ⟨X.bt, 0, none⟩), .pointer (some ⟨X.bth, 0, none⟩), .pointer (some ⟨X.bba, 0, none⟩), .pointer (some ⟨X.bf, 0, none⟩)]) :=
  ⟨hf.q1, hA ▸ hf.qa, s.cell0 hc0 hD hc.1, s.cell0 hc0 hD hc.2.1, s.cell0 hc0 hD hc.2.2.1, s.cell0 hc0 hD hc.2.2.2.1, s.cell0 hc0 hD hc.2.2.2.2,
    by rw [blk_cell hb]; rfl, by rw [blk_cell hb]; rfl, by rw [blk_cell hb]; rfl, by rw [blk_cell hb]; rfl, by rw [blk_cell hb]; rfl, hf.q2, hf.qf⟩

set_option maxRecDepth 100000 in
set_option maxHeartbeats 4000000 in
theorem from_any (X : Bx) (ha : X.a.length ≤ 5) (hb : X.b.length = X.a.length) (hn : ∀ x ∈ X.a ++ X.b, x.l.AllH fits ∧ x.r.AllH fits ∧ x.l.nodes ≤ 1000000 ∧ x.r.nodes ≤ 1000000) :
    ∀ (rest : List Lt) (i : Nat), X.a = X.a.take i ++ rest → i ≤ X.a.length → ∀ (w : World) (M1 D1 M2 D2 : Nat → Prop) (σ τ : Sg) (us : List Bool) (n : Nat), Run X w M1 M2 w M1 D1 M2 D2 σ τ us n → us.length = X.b.length → n ≤ 10000 →
      σ.length ≤ i * 2000000 → τ.length ≤ i * 2000000 →
      Calls Tryd.prog 19 #[.int .i64 i, .pointer (some ⟨X.ba, 0, none⟩), .pointer (some ⟨X.bb, 0, none⟩), .pointer (some ⟨X.bu, 0, none⟩), .pointer (some ⟨X.bt, 0, none⟩), .pointer (some ⟨X.bth, 0, none⟩), .pointer (some ⟨X.bba, 0, none⟩), .pointer (some ⟨X.bf, 0, none⟩)] w
        (FromPost X w M1 M2 σ τ us (frm X.b rest σ τ us n)) := by
  intro rest
  induction rest with
  | nil =>
    intro i hi hil w M1 D1 M2 D2 σ τ us n hst hul hn1 hσ hτ
    obtain rfl : i = X.a.length := by
      have := congrArg List.length hi
      simp at this; omega
    have qa := hst.fix.qa
    clear hi hst hn
    go_enter Tryd.func19, Tryd.ntmps19
    go_wp2_with fail
    go_ret
    exact ⟨rfl, Chg.refl _ _, fun h => by simp [frm] at h⟩
  | cons x xs ih =>
    intro i hi hil w M1 D1 M2 D2 σ τ us n hst hul hn1 hσ hτ
    have hlt : i < X.a.length := by
      have := congrArg List.length hi
      simp at this; omega
    have hx : X.a[i] = x := by
      have : X.a[i]? = some x := by
        rw [show X.a[i]? = (X.a.take i ++ x :: xs)[i]? from congrArg (·[i]?) hi, List.getElem?_append_right (by simp; omega)]
        simp [Nat.min_eq_left hil]
      rw [List.getElem?_eq_getElem hlt] at this
      exact Option.some.inj this
    have e1 : ((i : Int) == (X.a.length : Int)) = false := by simp; omega
    have IH := Lib.hid ih
    have qa := hst.fix.qa
    have qb := hst.fix.qb
    have HST := Lib.hid hst
    have HN := Lib.hid hn
    have HI := Lib.hid (And.intro hi hx)
    have ent := alike1_ent
    clear ih hst hn hi hx
    go_enter Tryd.func19, Tryd.ntmps19
    go_wp2_with fail
    clear qa qb
    go_loopw [21] (fun ii wr => ∃ (j n' : Nat) (M1' D1' M2' D2' : Nat → Prop), j ≤ X.b.length ∧ ii = .int .i64 j ∧ n' ≤ 10005 ∧ Hid (Run X w M1 M2 wr M1' D1' M2' D2' σ τ us n') ∧ Hid (tryJ (frm X.b xs) x σ τ us (X.b.drop j) j n' = frm X.b (x :: xs) σ τ us n))
      (fun ii _ => X.b.length - (intOf ii).toNat)
    case atStart => exact ⟨0, n, M1, D1, M2, D2, Nat.zero_le _, rfl, by omega, HST, Lib.hid (by rw [List.drop_zero, frm])⟩
    case round =>
      obtain ⟨wo, rfl⟩ : ∃ wo : World, wo = wr := ⟨_, rfl⟩
      obtain ⟨j, n', M1', D1', M2', D2', hj, rfl, hn', HR, HE⟩ := hrel
      by_cases hjl : j < X.b.length
      · obtain ⟨tu, hu⟩ := HR.out.st.u
        have hju : j < us.length := by omega
        have cu0 : wo.cell? ⟨X.ub, j, none⟩ = some (.bool us[j]) := by rw [blk_cell hu]; simp [hju]
        have qu := HR.out.fix.qu
        have hdrop : X.b.drop j = X.b[j] :: X.b.drop (j + 1) := List.drop_eq_getElem_cons hjl
        have hgd : us.getD j false = us[j] := by simp [List.getD, hju]
        clear hu
        cases huj : us[j] with
        | true =>
          rw [huj] at cu0
          have Huj := Lib.hid huj
          have Hdr := Lib.hid (And.intro hdrop hgd)
          clear huj hdrop hgd
          go_wp2_with fail
          go_roundw
          case rel => exact ⟨j + 1, n', M1', D1', M2', D2', hjl, by go_num, hn', HR, Lib.hid (by rw [← HE.out, Hdr.out.1, tryJ_cons, Hdr.out.2, Huj.out, if_pos rfl])⟩
          case measure => simp [intOf]; omega
        | false =>
          rw [huj] at cu0 hgd
          have HE2 : Hid (contJ (frm X.b xs) x σ τ us (X.b.drop (j + 1)) j (tryL (frm X.b xs) x σ τ us j [X.b[j], X.b[j].turn] n') = frm X.b (x :: xs) σ τ us n) := Lib.hid (by rw [← HE.out, hdrop, tryJ_cons, hgd, if_neg (by simp)])
          have Huj := Lib.hid huj
          have qb := HR.out.fix.qb
          obtain ⟨gb, ob, B1, d1, B2, d2, hAb, hDb, hKb1, hKb2, b0', b1', b2', b3', b4'⟩ := Lt.get_ HST.out.fix.sb j hjl
          have hc0 := HR.out.chg
          have b0 := HST.out.cell0 hc0 hDb b0'
          have b1 := HST.out.cell0 hc0 hDb b1'
          have b2 := HST.out.cell0 hc0 hDb b2'
          have b3 := HST.out.cell0 hc0 hDb b3'
          have b4 := HST.out.cell0 hc0 hDb b4'
          obtain ⟨ga, oa, A1, c1, A2, c2, hAa, hDa, hKa1, hKa2, a0', a1', a2', a3', a4'⟩ := Lt.get_ HST.out.fix.sa i hlt
          rw [HI.out.2] at hKa1 hKa2 a0' a1' a2' a3' a4'
          have HKb := Lib.hid (And.intro hDb (And.intro hKb1 hKb2))
          have HKa := Lib.hid (And.intro hDa (And.intro hKa1 hKa2))
          have HCa := Lib.hid (And.intro a0' (And.intro a1' (And.intro a2' (And.intro a3' a4'))))
          have HAa := Lib.hid hAa
          have hcb : X.b.length ≤ X.cb ∧ X.cb ≤ 9223372036854775807 := ⟨HR.out.fix.sb.le, HR.out.fix.sb.mx⟩
          rw [hAb] at qb
          have HAb := Lib.hid hAb
          have lb := World.block_lt_of_cell? wo _ b0
          have lbb := World.block_lt_of_cell? wo _ qb
          simp only at lb lbb
          generalize hy : X.b[j] = y at *
          clear HE huj hdrop hgd hDb hKb1 hKb2 hAb hDa hKa1 hKa2 a0' a1' a2' a3' a4' b0' b1' b2' b3' b4' hAa hc0
          have hca : X.a.length ≤ X.ca ∧ X.ca ≤ 9223372036854775807 := ⟨HST.out.fix.sa.le, HST.out.fix.sa.mx⟩
          go_wp2_with fail
          go_region_held3 (fun w' => w'.cell? ⟨X.bb, 0, none⟩ = some (.slice (some ⟨gb, ob, none⟩) X.b.length X.cb) ∧ w'.cell? ⟨gb, ob + j * 5, none⟩ = some (.bool y.neg) ∧ w'.cell? ⟨gb, ob + j * 5 + 1, none⟩ = some (.int .i64 y.l.hd) ∧ w'.cell? ⟨gb, ob + j * 5 + 2, none⟩ = some (.slice B1 y.l.args.length d1) ∧ w'.cell? ⟨gb, ob + j * 5 + 3, none⟩ = some (.int .i64 y.r.hd) ∧ w'.cell? ⟨gb, ob + j * 5 + 4, none⟩ = some (.slice B2 y.r.args.length d2))
            (first | (with_reducible exact ⟨qb, b0, b1, b2, b3, b4⟩) | (with_reducible exact ⟨rb, r0, r1, r2, r3, r4⟩) | go_keep)
            (first | (go_at_call 20; refine (turn_any _ _ _ _ _ _ _ _ _ _).mono ?_; rintro e wt ⟨rfl, hbt⟩; have rb := (hbt.cell (p := ⟨X.bb, 0, none⟩) lbb).trans qb; have r0 := (hbt.cell (p := ⟨gb, ob + j * 5, none⟩) lb).trans b0; have r1 := (hbt.cell (p := ⟨gb, ob + j * 5 + 1, none⟩) lb).trans b1; have r2 := (hbt.cell (p := ⟨gb, ob + j * 5 + 2, none⟩) lb).trans b2; have r3 := (hbt.cell (p := ⟨gb, ob + j * 5 + 3, none⟩) lb).trans b3; have r4 := (hbt.cell (p := ⟨gb, ob + j * 5 + 4, none⟩) lb).trans b4))
          have HRt := Lib.hid (HR.out.below (((Below.refl wo.heap.size wo).drew).trans hbt))
          clear rb r0 r1 r2 r3 r4 hbt
          go_wp2_with fail
          go_loopw [38] (fun kk wr => ∃ (k n2 : Nat) (N1 E1 N2 E2 : Nat → Prop), k ≤ 2 ∧ kk = .int .i64 k ∧ n2 ≤ 10005 ∧ Hid (Run X w M1 M2 wr N1 E1 N2 E2 σ τ us n2) ∧
              Hid (contJ (frm X.b xs) x σ τ us (X.b.drop (j + 1)) j (tryL (frm X.b xs) x σ τ us j ([y, y.turn].drop k) n2) = frm X.b (x :: xs) σ τ us n))
            (fun kk _ => 2 - (intOf kk).toNat)
          case atStart => exact ⟨0, n', M1', D1', M2', D2', Nat.zero_le _, rfl, hn', HRt, Lib.hid (by rw [List.drop_zero]; exact HE2.out)⟩
          case round =>
            obtain ⟨k, n2, N1, E1, N2, E2, hk, rfl, hn2, HQ, HG⟩ := hrel
            obtain ⟨tt, ht⟩ := HQ.out.st.t
            have ct : wr.cell? ⟨X.bt, 0, none⟩ = some (.int .i64 n2) := by rw [blk_cell ht]; rfl
            have ft : wr.frozen? ⟨X.bt, 0, none⟩ = false := by rw [blk_frozen ht]
            have lt' := blk_lt ht
            clear ht
            by_cases hk0 : k = 0
            · subst hk0
              have hix := idx0 (.bool y.neg) (.int .i64 y.l.hd) (.slice B1 y.l.args.length d1) (.int .i64 y.r.hd) (.slice B2 y.r.args.length d2) (.bool y.neg) (.int .i64 y.r.hd) (.slice B2 y.r.args.length d2) (.int .i64 y.l.hd) (.slice B1 y.l.args.length d1)
              by_cases hov : 10000 < n2 + 1
              · go_wp2_with fail
                have hr : frm X.b (x :: xs) σ τ us n = (false, n2 + 1) := by rw [← HG.out, show [y, y.turn].drop 0 = y :: [y.turn] from rfl, tryL, if_pos hov]; rfl
                have HR1 := (HQ.out.tick1).below ((Below.refl _ _).alloc (Nat.le_refl _) (.cells #[.bool y.neg, .int .i64 y.l.hd, .slice B1 y.l.args.length d1, .int .i64 y.r.hd, .slice B2 y.r.args.length d2] 32))
                rw [hr]
                go_ret
                exact ⟨rfl, HR1.chg, fun _ => ⟨_, _, _, _, HR1⟩⟩
              · go_wp2_with fail
                obtain ⟨w1, hw1⟩ : ∃ w1, (wr.setCell ⟨X.bt, 0, none⟩ (.int .i64 ((n2 : Int) + 1))).alloc (.cells #[.bool y.neg, .int .i64 y.l.hd, .slice B1 y.l.args.length d1, .int .i64 y.r.hd, .slice B2 y.r.args.length d2] 32) = w1 := ⟨_, rfl⟩
                rw [hw1]
                have HR1 : Hid (Run X w M1 M2 w1 N1 E1 N2 E2 σ τ us (n2 + 1)) := Lib.hid (hw1 ▸ ((HQ.out.tick1).below ((Below.refl _ _).alloc (Nat.le_refl _) _)))
                have HBX : Hid (w1.heap[wr.heap.size]? = some (.cells #[.bool y.neg, .int .i64 y.l.hd, .slice B1 y.l.args.length d1, .int .i64 y.r.hd, .slice B2 y.r.args.length d2] 32 (0, 0))) := Lib.hid (by rw [← hw1]; exact blk_alloc_at _ _ _ (by rw [size_set]))
                have hsz1 : wr.heap.size < w1.heap.size := blk_lt HBX.out
                clear hw1 ct ft hix
                have q1 := HR1.out.fix.q1
                have q2 := HR1.out.fix.q2
                have hmk1 := Lib.hid (fun (n : Nat) => (mark_any (w1.drewN n) N1 E1 X.m1 σ (HR1.out.st.s1.below (below_drewN (Below.refl _ _) _))).mono (R' := fun e w'' => e = .returned (.int .i64 σ.length) ∧ ∃ m, w'' = w1.drewN m) (by rintro e w' ⟨rfl, rfl⟩; exact ⟨rfl, n, rfl⟩))
                have hmk2 := Lib.hid (fun (n : Nat) => (mark_any (w1.drewN n) N2 E2 X.m2 τ (HR1.out.st.s2.below (below_drewN (Below.refl _ _) _))).mono (R' := fun e w'' => e = .returned (.int .i64 τ.length) ∧ ∃ m, w'' = w1.drewN m) (by rintro e w' ⟨rfl, rfl⟩; exact ⟨rfl, n, rfl⟩))
                go_quiet (first | (go_at_call 21; with_reducible exact hmk1.out _) | (go_at_call 21; with_reducible exact hmk2.out _))
                clear hmk1 hmk2
                have HR1 : Hid (Run X w M1 M2 (w1.drewN nq) N1 E1 N2 E2 σ τ us (n2 + 1)) := Lib.hid (HR1.out.below (below_drewN (Below.refl _ _) _))
                have HBX : Hid ((w1.drewN nq).heap[wr.heap.size]? = some (.cells #[.bool y.neg, .int .i64 y.l.hd, .slice B1 y.l.args.length d1, .int .i64 y.r.hd, .slice B2 y.r.args.length d2] 32 (0, 0))) := HBX
                generalize w1.drewN nq = w2 at *
                clear q1 q2 hsz1
                have hsz1 : wr.heap.size < w2.heap.size := blk_lt HBX.out
                obtain ⟨tu1, hu1⟩ := HR1.out.st.u
                have qu1 := HR1.out.fix.qu
                have cu1 : w2.cell? ⟨X.ub, j, none⟩ = some (.bool us[j]) := by rw [blk_cell hu1]; simp [hju]
                have fu1 : w2.frozen? ⟨X.ub, j, none⟩ = false := blk_frozen hu1 j
                have lu1 := blk_lt hu1
                have ult := HQ.out.st.ult
                have tlt := HQ.out.st.tlt
                clear hu1
                go_wp2_with fail
                obtain ⟨w3, hw3⟩ : ∃ w3, w2.setCell ⟨X.ub, j, none⟩ (.bool true) = w3 := ⟨_, rfl⟩
                rw [hw3]
                have HR3 : Hid (Run X w M1 M2 w3.drew N1 E1 N2 E2 σ τ (us.set j true) (n2 + 1)) := Lib.hid ((hw3 ▸ HR1.out.use j true).below (Below.refl _ _).drew)
                have HBX3 : Hid (w3.drew.heap[wr.heap.size]? = some (.cells #[.bool y.neg, .int .i64 y.l.hd, .slice B1 y.l.args.length d1, .int .i64 y.r.hd, .slice B2 y.r.args.length d2] 32 (0, 0))) := Lib.hid (by show w3.heap[_]? = _; rw [← hw3, blk_set_ne (by omega)]; exact HBX.out)
                have HNB : Hid (¬ N1 wr.heap.size ∧ ¬ N2 wr.heap.size) := Lib.hid ⟨fun h => absurd (HQ.out.st.s1.lt _ h) (by omega), fun h => absurd (HQ.out.st.s2.lt _ h) (by omega)⟩
                clear hw3 cu1 fu1 qu1 HBX HR1 hsz1 lu1
                have hszb : wr.heap.size < w3.drew.heap.size := blk_lt HBX3.out
                have HCd := Lib.hid (HST.out.cells HR3.out.fix HR3.out.chg HAa.out HKa.out.1 HCa.out HBX3.out)
                have HKK := Lib.hid (fun (W : World) (hc : Chg (Wr M1 M2 X.ub X.bt) w W) => And.intro (HST.out.k0 (d := Tm.rd) hc (fun _ h => h) (fun _ h => h) HKa.out.2.1) (And.intro (HST.out.k0 (d := Tm.rd) hc (fun _ h => h) (fun _ h => h) HKa.out.2.2) (And.intro (HST.out.k0 (d := Tm.rd) hc (fun _ h => h) (fun _ h => h) HKb.out.2.1) (HST.out.k0 (d := Tm.rd) hc (fun _ h => h) (fun _ h => h) HKb.out.2.2))))
                have hnx := HN.out x (List.mem_append_left _ (HI.out.2 ▸ List.getElem_mem hlt))
                have hny0 := HN.out y (List.mem_append_right _ (hy ▸ List.getElem_mem hjl))
                have hny : Tm.AllH fits (y).l ∧ Tm.AllH fits (y).r ∧ (y).l.nodes ≤ 1000000 ∧ (y).r.nodes ≤ 1000000 := hny0
                have hnd := hnx.2.2
                have hne := hny.2.2
                have hi5 : i * 2000000 ≤ 10000000 := by omega
                have HNX := Lib.hid (And.intro hnx hny)
                clear hnx hny hny0
                have hL1 : Hid (Calls Tryd.prog 22 #[.pointer (some ⟨X.m1, 0, none⟩), .agg #[.bool x.neg, .int .i64 x.l.hd, .slice A1 x.l.args.length c1, .int .i64 x.r.hd, .slice A2 x.r.args.length c2], .agg #[.bool y.neg, .int .i64 y.l.hd, .slice B1 y.l.args.length d1, .int .i64 y.r.hd, .slice B2 y.r.args.length d2], .bool false] w3.drew (TermPost w3.drew N1 E1 X.m1 σ (litF x y σ))) :=
                  Lib.hid (Lit_any w3.drew N1 E1 X.Da X.Da X.m1 σ HR3.out.st.s1 x y A1 A2 B1 B2 c1 c2 d1 d2 (HKK.out _ HR3.out.chg).1 (HKK.out _ HR3.out.chg).2.1 (HKK.out _ HR3.out.chg).2.2.1 (HKK.out _ HR3.out.chg).2.2.2 (fun k hk h => HR3.out.dis k hk (.inl h)) (fun k hk h => HR3.out.dis k hk (.inl h)) (by omega) HNX.out.1.1 HNX.out.1.2.1)
                have hL2 : Hid (∀ (w4 : World) (P1 F1 : Nat → Prop) (σ' : Sg), Run X w M1 M2 w4 P1 F1 N2 E2 σ' τ (us.set j true) (n2 + 1) → Calls Tryd.prog 22 #[.pointer (some ⟨X.m2, 0, none⟩), .agg #[.bool y.neg, .int .i64 y.l.hd, .slice B1 y.l.args.length d1, .int .i64 y.r.hd, .slice B2 y.r.args.length d2], .agg #[.bool x.neg, .int .i64 x.l.hd, .slice A1 x.l.args.length c1, .int .i64 x.r.hd, .slice A2 x.r.args.length c2], .bool false] w4 (TermPost w4 N2 E2 X.m2 τ (litF y x τ))) :=
                  Lib.hid (fun w4 P1 F1 σ' h => Lit_any w4 N2 E2 X.Da X.Da X.m2 τ h.st.s2 y x B1 B2 A1 A2 d1 d2 c1 c2 (HKK.out _ h.chg).2.2.1 (HKK.out _ h.chg).2.2.2 (HKK.out _ h.chg).1 (HKK.out _ h.chg).2.1 (fun k hk h' => h.dis k hk (.inr (.inl h'))) (fun k hk h' => h.dis k hk (.inr (.inl h'))) (by omega) HNX.out.2.1 HNX.out.2.2.1)
                have hB4 : Hid (∀ (w4 : World) (P1 F1 : Nat → Prop) (σ' : Sg), Left w3.drew N1 E1 X.m1 σ' w4 P1 F1 → w4.heap[wr.heap.size]? = some (.cells #[.bool y.neg, .int .i64 y.l.hd, .slice B1 y.l.args.length d1, .int .i64 y.r.hd, .slice B2 y.r.args.length d2] 32 (0, 0)) ∧ ¬ P1 wr.heap.size) := Lib.hid (fun w4 P1 F1 σ' h => ⟨(h.chg.block _ hszb HNB.out.1).trans HBX3.out, fun hp => by rcases h.m _ hp with hp | hp; exact HNB.out.1 hp; omega⟩)
                have hB5 : Hid (∀ (w4 w5 : World) (P1 F1 P2 F2 : Nat → Prop) (σ' τ' : Sg), Left w3.drew N1 E1 X.m1 σ' w4 P1 F1 → Left w4 N2 E2 X.m2 τ' w5 P2 F2 → w5.heap[wr.heap.size]? = some (.cells #[.bool y.neg, .int .i64 y.l.hd, .slice B1 y.l.args.length d1, .int .i64 y.r.hd, .slice B2 y.r.args.length d2] 32 (0, 0)) ∧ ¬ Wr P1 P2 X.ub X.bt wr.heap.size) := Lib.hid (fun w4 w5 P1 F1 P2 F2 σ' τ' h h2 => ⟨(h2.chg.block _ (Nat.lt_of_lt_of_le hszb h.chg.size) HNB.out.2).trans (hB4.out _ _ _ _ h).1, fun hp => by
                  rcases hp with hp | hp | hp | hp
                  · exact (hB4.out _ _ _ _ h).2 hp
                  · rcases h2.m _ hp with hp | hp
                    · exact HNB.out.2 hp
                    · have := h.chg.size; omega
                  · omega
                  · omega⟩)
                have hFr : Hid (∀ (w5 : World) (P1 F1 P2 F2 : Nat → Prop) (σ' τ' : Sg), σ'.length ≤ (i + 1) * 2000000 → τ'.length ≤ (i + 1) * 2000000 → Run X w M1 M2 w5 P1 F1 P2 F2 σ' τ' (us.set j true) (n2 + 1) → Calls Tryd.prog 19 #[.int .i64 ((i : Int) + 1), .pointer (some ⟨X.ba, 0, none⟩), .pointer (some ⟨X.bb, 0, none⟩), .pointer (some ⟨X.bu, 0, none⟩), .pointer (some ⟨X.bt, 0, none⟩), .pointer (some ⟨X.bth, 0, none⟩), .pointer (some ⟨X.bba, 0, none⟩), .pointer (some ⟨X.bf, 0, none⟩)] w5
                    (FromPost X w5 P1 P2 σ' τ' (us.set j true) (frm X.b xs σ' τ' (us.set j true) (n2 + 1)))) :=
                  Lib.hid (fun w5 P1 F1 P2 F2 σ' τ' h1 h2 h => by
                    have := IH.out (i + 1) (take_step HI.out.1) hlt w5 P1 F1 P2 F2 σ' τ' (us.set j true) (n2 + 1) h.self (by simpa using hul) (by omega) h1 h2
                    rwa [show ((i + 1 : Nat) : Int) = (i : Int) + 1 from by omega] at this)
                have hxs : xs.length ≤ 4 := by have h5 := congrArg List.length HI.out.1; simp at h5; omega
                have hwr : IntKind.i64.wrap ((i : Int) + 1) = (i : Int) + 1 := IntWalk.i64_in _ (by omega)
                have HG2 : Hid (∀ m q, tryL (frm X.b xs) x σ τ us j (y :: [y.turn]) n2 = tryL (frm X.b xs) x σ τ us j [y.turn] m → q = m → contJ (frm X.b xs) x σ τ us (X.b.drop (j + 1)) j (tryL (frm X.b xs) x σ τ us j ([y, y.turn].drop 1) q) = frm X.b (x :: xs) σ τ us n) := Lib.hid (fun m q h e => by subst e; rw [← HG.out, show [y, y.turn].drop 0 = y :: [y.turn] from rfl, h]; rfl)
                have hqu := HST.out.fix.k
                cases hr1 : litF x y σ with
                | none =>
                  rw [hr1] at hL1
                  have Hr1 := Lib.hid hr1
                  have hL1 : Hid (Calls Tryd.prog 22 #[.pointer (some ⟨X.m1, 0, none⟩), .agg #[.bool x.neg, .int .i64 x.l.hd, .slice A1 x.l.args.length c1, .int .i64 x.r.hd, .slice A2 x.r.args.length c2], .agg #[.bool y.neg, .int .i64 y.l.hd, .slice B1 y.l.args.length d1, .int .i64 y.r.hd, .slice B2 y.r.args.length d2], .bool false] w3.drew (fun e w' => e = .returned (.bool false) ∧ ∃ M' D', Left w3.drew N1 E1 X.m1 σ w' M' D')) := Lib.hid (Calls.mono hL1.out (fun _ _ h => h))
                  clear hr1 hL2 hFr
                  refine wp_region_held_drew (S := (fun w' => w'.cell? ⟨X.bth, 0, none⟩ = some (.pointer (some ⟨X.m1, 0, none⟩)) ∧ w'.cell? ⟨X.ba, 0, none⟩ = some (.slice (some ⟨ga, oa, none⟩) X.a.length X.ca) ∧ w'.cell? ⟨ga, oa + i * 5, none⟩ = some (.bool x.neg) ∧ w'.cell? ⟨ga, oa + i * 5 + 1, none⟩ = some (.int .i64 x.l.hd) ∧ w'.cell? ⟨ga, oa + i * 5 + 2, none⟩ = some (.slice A1 x.l.args.length c1) ∧ w'.cell? ⟨ga, oa + i * 5 + 3, none⟩ = some (.int .i64 x.r.hd) ∧ w'.cell? ⟨ga, oa + i * 5 + 4, none⟩ = some (.slice A2 x.r.args.length c2) ∧ w'.cell? ⟨wr.heap.size, 0, none⟩ = some (.bool y.neg) ∧ w'.cell? ⟨wr.heap.size, 1, none⟩ = some (.int .i64 y.l.hd) ∧ w'.cell? ⟨wr.heap.size, 2, none⟩ = some (.slice B1 y.l.args.length d1) ∧ w'.cell? ⟨wr.heap.size, 3, none⟩ = some (.int .i64 y.r.hd) ∧ w'.cell? ⟨wr.heap.size, 4, none⟩ = some (.slice B2 y.r.args.length d2) ∧ w'.cell? ⟨X.bba, 0, none⟩ = some (.pointer (some ⟨X.m2, 0, none⟩)) ∧ w'.cell? ⟨X.bf, 0, none⟩ = some (.func (.func 19) #[] #[.pointer (some ⟨X.ba, 0, none⟩), .pointer (some ⟨X.bb, 0, none⟩), .pointer (some ⟨X.bu, 0, none⟩), .pointer (some ⟨X.bt, 0, none⟩), .pointer (some ⟨X.bth, 0, none⟩), .pointer (some ⟨X.bba, 0, none⟩), .pointer (some ⟨X.bf, 0, none⟩)]))) (by kernel_rfl) HCd.out (fun hHeld => ?_)
                  refine wpAnyH_take (i := 0) (v := ?_) rfl (by kernel_rfl) (by kernel_rfl) (by kernel_rfl) (fun _ _ _ h => h) (Or.inl ⟨by rfl, ?_⟩) hHeld ?_
                  rotate_left
                  · intro w hSw; go_simp; try with_reducible rfl
                  try simp only [Act.put, List.setIfInBounds_toArray, List.set_cons_zero, List.set_cons_succ, List.getElem_toArray, List.getElem_cons_zero, List.getElem_cons_succ]
                  refine wpAnyH_take (i := 1) (v := ?_) rfl (by kernel_rfl) (by kernel_rfl) (by kernel_rfl) (fun _ _ _ h => h) (Or.inl ⟨by rfl, ?_⟩) hHeld ?_
                  rotate_left
                  · intro w hSw; go_simp; try with_reducible rfl
                  try simp only [Act.put, List.setIfInBounds_toArray, List.set_cons_zero, List.set_cons_succ, List.getElem_toArray, List.getElem_cons_zero, List.getElem_cons_succ]
                  refine wpAnyH_take (i := 2) (v := ?_) rfl (by kernel_rfl) (by kernel_rfl) (by kernel_rfl) (fun _ _ _ h => h) (Or.inl ⟨by rfl, ?_⟩) hHeld ?_
                  rotate_left
                  · intro w hSw; go_simp; try with_reducible rfl
                  try simp only [Act.put, List.setIfInBounds_toArray, List.set_cons_zero, List.set_cons_succ, List.getElem_toArray, List.getElem_cons_zero, List.getElem_cons_succ]
                  refine wpAnyH_take (i := 3) (v := ?_) rfl (by kernel_rfl) (by kernel_rfl) (by kernel_rfl) (fun _ _ _ h => h) (Or.inl ⟨by rfl, ?_⟩) hHeld ?_
                  rotate_left
                  · intro w hSw; go_simp; try with_reducible rfl
                  try simp only [Act.put, List.setIfInBounds_toArray, List.set_cons_zero, List.set_cons_succ, List.getElem_toArray, List.getElem_cons_zero, List.getElem_cons_succ]
                  refine wpAnyH_take (i := 4) (v := ?_) rfl (by kernel_rfl) (by kernel_rfl) (by kernel_rfl) (fun _ _ _ h => h) (Or.inl ⟨by rfl, ?_⟩) hHeld ?_
                  rotate_left
                  · intro w hSw; go_simp; try with_reducible rfl
                  try simp only [Act.put, List.setIfInBounds_toArray, List.set_cons_zero, List.set_cons_succ, List.getElem_toArray, List.getElem_cons_zero, List.getElem_cons_succ]
                  refine wpAnyH_take (i := 5) (v := ?_) rfl (by kernel_rfl) (by kernel_rfl) (by kernel_rfl) (fun _ _ _ h => h) (Or.inl ⟨by rfl, ?_⟩) hHeld ?_
                  rotate_left
                  · intro w hSw; go_simp; try with_reducible rfl
                  try simp only [Act.put, List.setIfInBounds_toArray, List.set_cons_zero, List.set_cons_succ, List.getElem_toArray, List.getElem_cons_zero, List.getElem_cons_succ]
                  refine wpAnyH_ready (rs := [6]) (by kernel_rfl) (by simp) ?_
                  refine AllReadyH.cons rfl (fun K hK => ?_) AllReadyH.nil
                  go_simp
                  go_at_call 22
                  refine Calls.mono hL1.out ?_
                  rintro e w4 ⟨rfl, P1, F1, hl⟩
                  have HR4 := Lib.hid (HR3.out.on1 hl)
                  have HC4 := Lib.hid (HST.out.cells HR4.out.fix HR4.out.chg HAa.out HKa.out.1 HCa.out (hB4.out _ _ _ _ hl).1)
                  go_wp2_with fail
                  refine hK.out _ _ HC4.out (fun hHeld => ?_)
                  clear hK K
                  try simp only [Act.put, List.setIfInBounds_toArray, List.set_cons_zero, List.set_cons_succ, List.getElem_toArray, List.getElem_cons_zero, List.getElem_cons_succ]
                  refine wpAnyH_take (i := 7) (v := ?_) rfl (by kernel_rfl) (by kernel_rfl) (by kernel_rfl) (fun _ _ _ h => h) (Or.inl ⟨by rfl, ?_⟩) hHeld ?_
                  rotate_left
                  · intro w hSw; go_simp; try with_reducible rfl
                  try simp only [Act.put, List.setIfInBounds_toArray, List.set_cons_zero, List.set_cons_succ, List.getElem_toArray, List.getElem_cons_zero, List.getElem_cons_succ]
                  refine wpAnyH_take (i := 8) rfl (by kernel_rfl) (by kernel_rfl) (by kernel_rfl) (fun _ _ _ h => h) (Or.inr ⟨by rfl, rfl⟩) hHeld ?_
                  try simp only [Act.put, List.setIfInBounds_toArray, List.set_cons_zero, List.set_cons_succ, List.getElem_toArray, List.getElem_cons_zero, List.getElem_cons_succ]
                  refine wpAnyH_take (i := 9) rfl (by kernel_rfl) (by kernel_rfl) (by kernel_rfl) (fun _ _ _ h => h) (Or.inr ⟨by rfl, rfl⟩) hHeld ?_
                  try simp only [Act.put, List.setIfInBounds_toArray, List.set_cons_zero, List.set_cons_succ, List.getElem_toArray, List.getElem_cons_zero, List.getElem_cons_succ]
                  refine wpAnyH_take (i := 10) rfl (by kernel_rfl) (by kernel_rfl) (by kernel_rfl) (fun _ _ _ h => h) (Or.inr ⟨by rfl, rfl⟩) hHeld ?_
                  try simp only [Act.put, List.setIfInBounds_toArray, List.set_cons_zero, List.set_cons_succ, List.getElem_toArray, List.getElem_cons_zero, List.getElem_cons_succ]
                  refine wpAnyH_take (i := 11) rfl (by kernel_rfl) (by kernel_rfl) (by kernel_rfl) (fun _ _ _ h => h) (Or.inr ⟨by rfl, rfl⟩) hHeld ?_
                  try simp only [Act.put, List.setIfInBounds_toArray, List.set_cons_zero, List.set_cons_succ, List.getElem_toArray, List.getElem_cons_zero, List.getElem_cons_succ]
                  refine wpAnyH_take (i := 12) rfl (by kernel_rfl) (by kernel_rfl) (by kernel_rfl) (fun _ _ _ h => h) (Or.inr ⟨by rfl, rfl⟩) hHeld ?_
                  try simp only [Act.put, List.setIfInBounds_toArray, List.set_cons_zero, List.set_cons_succ, List.getElem_toArray, List.getElem_cons_zero, List.getElem_cons_succ]
                  refine wpAnyH_take (i := 13) rfl (by kernel_rfl) (by kernel_rfl) (by kernel_rfl) (fun _ _ _ h => h) (Or.inr ⟨by rfl, rfl⟩) hHeld ?_
                  try simp only [Act.put, List.setIfInBounds_toArray, List.set_cons_zero, List.set_cons_succ, List.getElem_toArray, List.getElem_cons_zero, List.getElem_cons_succ]
                  refine wpAnyH_take (i := 14) rfl (by kernel_rfl) (by kernel_rfl) (by kernel_rfl) (fun _ _ _ h => h) (Or.inr ⟨by rfl, rfl⟩) hHeld ?_
                  try simp only [Act.put, List.setIfInBounds_toArray, List.set_cons_zero, List.set_cons_succ, List.getElem_toArray, List.getElem_cons_zero, List.getElem_cons_succ]
                  refine wpAnyH_take (i := 15) (v := ?_) rfl (by kernel_rfl) (by kernel_rfl) (by kernel_rfl) (fun _ _ _ h => h) (Or.inl ⟨by rfl, ?_⟩) hHeld ?_
                  rotate_left
                  · intro w hSw; go_simp; try with_reducible rfl
                  try simp only [Act.put, List.setIfInBounds_toArray, List.set_cons_zero, List.set_cons_succ, List.getElem_toArray, List.getElem_cons_zero, List.getElem_cons_succ]
                  refine wpAnyH_take (i := 16) (v := ?_) rfl (by kernel_rfl) (by kernel_rfl) (by kernel_rfl) (fun _ _ _ h => h) (Or.inl ⟨by rfl, ?_⟩) hHeld ?_
                  rotate_left
                  · intro w hSw; go_simp; try with_reducible rfl
                  try simp only [Act.put, List.setIfInBounds_toArray, List.set_cons_zero, List.set_cons_succ, List.getElem_toArray, List.getElem_cons_zero, List.getElem_cons_succ]
                  refine wpAnyH_take (i := 17) rfl (by kernel_rfl) (by kernel_rfl) (by kernel_rfl) (fun _ _ _ h => h) (Or.inr ⟨by rfl, rfl⟩) hHeld ?_
                  try simp only [Act.put, List.setIfInBounds_toArray, List.set_cons_zero, List.set_cons_succ, List.getElem_toArray, List.getElem_cons_zero, List.getElem_cons_succ]
                  refine wpAnyH_take (i := 18) rfl (by kernel_rfl) (by kernel_rfl) (by kernel_rfl) (fun _ _ _ h => h) (Or.inr ⟨by rfl, rfl⟩) hHeld ?_
                  try simp only [Act.put, List.setIfInBounds_toArray, List.set_cons_zero, List.set_cons_succ, List.getElem_toArray, List.getElem_cons_zero, List.getElem_cons_succ]
                  refine wpAnyH_take (i := 19) rfl (by kernel_rfl) (by kernel_rfl) (by kernel_rfl) (fun _ _ _ h => h) (Or.inr ⟨by rfl, rfl⟩) hHeld ?_
                  try simp only [Act.put, List.setIfInBounds_toArray, List.set_cons_zero, List.set_cons_succ, List.getElem_toArray, List.getElem_cons_zero, List.getElem_cons_succ]
                  refine wpAnyH_take (i := 20) rfl (by kernel_rfl) (by kernel_rfl) (by kernel_rfl) (fun _ _ _ h => h) (Or.inr ⟨by rfl, rfl⟩) hHeld ?_
                  try simp only [Act.put, List.setIfInBounds_toArray, List.set_cons_zero, List.set_cons_succ, List.getElem_toArray, List.getElem_cons_zero, List.getElem_cons_succ]
                  refine wpAnyH_take (i := 21) (v := ?_) rfl (by kernel_rfl) (by kernel_rfl) (by kernel_rfl) (fun _ _ _ h => h) (Or.inl ⟨by rfl, ?_⟩) hHeld ?_
                  rotate_left
                  · intro w hSw; go_simp; try with_reducible rfl
                  try simp only [Act.put, List.setIfInBounds_toArray, List.set_cons_zero, List.set_cons_succ, List.getElem_toArray, List.getElem_cons_zero, List.getElem_cons_succ]
                  refine wpAnyH_done (by kernel_rfl) ?_ _
                  clear hHeld
                  have Hσ0 : Hid (σ.length ≤ σ.length ∧ σ.take σ.length = σ) := Lib.hid ⟨Nat.le_refl _, List.take_length⟩
                  have Hτ0 : Hid (τ.length ≤ τ.length ∧ τ.take τ.length = τ) := Lib.hid ⟨Nat.le_refl _, List.take_length⟩
                  clear hl HC4 HCd
                  obtain ⟨tu5, hu5⟩ := HR4.out.st.u
                  have qu5 := HR4.out.fix.qu
                  have q15 := HR4.out.fix.q1
                  have cu5 : w4.cell? ⟨X.ub, j, none⟩ = some (.bool true) := by rw [blk_cell hu5]; simp [hju]
                  have fu5 : w4.frozen? ⟨X.ub, j, none⟩ = false := blk_frozen hu5 j
                  have lu5 := blk_lt hu5
                  have n5 : X.bth ≠ X.ub := fun e => HR4.out.dis _ HR4.out.fix.k.2.2.2.1 (.inr (.inr (.inl e)))
                  clear hu5
                  go_wp2_with fail
                  refine (back_any _ P1 F1 X.m1 (σ) σ.length Hσ0.out.1 (HR4.out.use j false).st.s1).mono ?_
                  rintro e w7 ⟨rfl, hst7, hc7, hs7⟩
                  have HR7 := Lib.hid ((HR4.out.use j false).back1 hst7 hc7)
                  clear hst7 hc7 hs7
                  have q27 := HR7.out.fix.q2
                  go_wp2_with fail
                  refine (back_any w7 N2 E2 X.m2 (τ) τ.length Hτ0.out.1 HR7.out.st.s2).mono ?_
                  rintro e w8 ⟨rfl, hst8, hc8, hs8⟩
                  have HR8 := Lib.hid (HR7.out.back2 hst8 hc8)
                  clear hst8 hc8 hs8
                  have hset : (us.set j true).set j false = us := by rw [List.set_set]; apply List.ext_getElem (by simp); intro q h1 h2; rw [List.getElem_set]; split; (subst_vars; exact Huj.out.symm); rfl
                  go_wp2_with fail
                  go_roundw
                  case rel => exact ⟨1, (n2 + 1), P1, F1, N2, E2, by omega, by go_num, by omega, Lib.hid (by have h8 := HR8.out; rw [hset, Hσ0.out.2, Hτ0.out.2] at h8; exact h8), Lib.hid (HG2.out _ _ (by rw [tryL_cons, if_neg hov, Hr1.out]) rfl)⟩
                  case measure => simp [intOf]
                | some σ1 =>
                  rw [hr1] at hL1
                  have Hr1 := Lib.hid hr1
                  have hL1 : Hid (Calls Tryd.prog 22 #[.pointer (some ⟨X.m1, 0, none⟩), .agg #[.bool x.neg, .int .i64 x.l.hd, .slice A1 x.l.args.length c1, .int .i64 x.r.hd, .slice A2 x.r.args.length c2], .agg #[.bool y.neg, .int .i64 y.l.hd, .slice B1 y.l.args.length d1, .int .i64 y.r.hd, .slice B2 y.r.args.length d2], .bool false] w3.drew (fun e w' => e = .returned (.bool true) ∧ ∃ M' D', Left w3.drew N1 E1 X.m1 σ1 w' M' D')) := Lib.hid (Calls.mono hL1.out (fun _ _ h => h))
                  obtain ⟨ext1, hx1, hx1l⟩ := litF_pre hr1
                  have Hσ0 : Hid (σ.length ≤ σ1.length ∧ σ1.take σ.length = σ) := Lib.hid (by subst hx1; exact ⟨by simp, List.take_left⟩)
                  have hσ1 : σ1.length ≤ (i + 1) * 2000000 := by rw [hx1, List.length_append]; omega
                  clear hr1 hx1 hx1l
                  cases hr2 : litF y x τ with
                  | none =>
                    rw [hr2] at hL2
                    have Hr2 := Lib.hid hr2
                    have hL2 : Hid (∀ (w4 : World) (P1 F1 : Nat → Prop) (σ' : Sg), Run X w M1 M2 w4 P1 F1 N2 E2 σ' τ (us.set j true) (n2 + 1) → Calls Tryd.prog 22 #[.pointer (some ⟨X.m2, 0, none⟩), .agg #[.bool y.neg, .int .i64 y.l.hd, .slice B1 y.l.args.length d1, .int .i64 y.r.hd, .slice B2 y.r.args.length d2], .agg #[.bool x.neg, .int .i64 x.l.hd, .slice A1 x.l.args.length c1, .int .i64 x.r.hd, .slice A2 x.r.args.length c2], .bool false] w4 (fun e w' => e = .returned (.bool false) ∧ ∃ M' D', Left w4 N2 E2 X.m2 τ w' M' D')) := Lib.hid (fun w4 P1 F1 σ' h => Calls.mono (hL2.out w4 P1 F1 σ' h) (fun _ _ h => h))
                    clear hr2 hFr
                    refine wp_region_held_drew (S := (fun w' => w'.cell? ⟨X.bth, 0, none⟩ = some (.pointer (some ⟨X.m1, 0, none⟩)) ∧ w'.cell? ⟨X.ba, 0, none⟩ = some (.slice (some ⟨ga, oa, none⟩) X.a.length X.ca) ∧ w'.cell? ⟨ga, oa + i * 5, none⟩ = some (.bool x.neg) ∧ w'.cell? ⟨ga, oa + i * 5 + 1, none⟩ = some (.int .i64 x.l.hd) ∧ w'.cell? ⟨ga, oa + i * 5 + 2, none⟩ = some (.slice A1 x.l.args.length c1) ∧ w'.cell? ⟨ga, oa + i * 5 + 3, none⟩ = some (.int .i64 x.r.hd) ∧ w'.cell? ⟨ga, oa + i * 5 + 4, none⟩ = some (.slice A2 x.r.args.length c2) ∧ w'.cell? ⟨wr.heap.size, 0, none⟩ = some (.bool y.neg) ∧ w'.cell? ⟨wr.heap.size, 1, none⟩ = some (.int .i64 y.l.hd) ∧ w'.cell? ⟨wr.heap.size, 2, none⟩ = some (.slice B1 y.l.args.length d1) ∧ w'.cell? ⟨wr.heap.size, 3, none⟩ = some (.int .i64 y.r.hd) ∧ w'.cell? ⟨wr.heap.size, 4, none⟩ = some (.slice B2 y.r.args.length d2) ∧ w'.cell? ⟨X.bba, 0, none⟩ = some (.pointer (some ⟨X.m2, 0, none⟩)) ∧ w'.cell? ⟨X.bf, 0, none⟩ = some (.func (.func 19) #[] #[.pointer (some ⟨X.ba, 0, none⟩), .pointer (some ⟨X.bb, 0, none⟩), .pointer (some ⟨X.bu, 0, none⟩), .pointer (some ⟨X.bt, 0, none⟩), .pointer (some ⟨X.bth, 0, none⟩), .pointer (some ⟨X.bba, 0, none⟩), .pointer (some ⟨X.bf, 0, none⟩)]))) (by kernel_rfl) HCd.out (fun hHeld => ?_)
                    refine wpAnyH_take (i := 0) (v := ?_) rfl (by kernel_rfl) (by kernel_rfl) (by kernel_rfl) (fun _ _ _ h => h) (Or.inl ⟨by rfl, ?_⟩) hHeld ?_
                    rotate_left
                    · intro w hSw; go_simp; try with_reducible rfl
                    try simp only [Act.put, List.setIfInBounds_toArray, List.set_cons_zero, List.set_cons_succ, List.getElem_toArray, List.getElem_cons_zero, List.getElem_cons_succ]
                    refine wpAnyH_take (i := 1) (v := ?_) rfl (by kernel_rfl) (by kernel_rfl) (by kernel_rfl) (fun _ _ _ h => h) (Or.inl ⟨by rfl, ?_⟩) hHeld ?_
                    rotate_left
                    · intro w hSw; go_simp; try with_reducible rfl
                    try simp only [Act.put, List.setIfInBounds_toArray, List.set_cons_zero, List.set_cons_succ, List.getElem_toArray, List.getElem_cons_zero, List.getElem_cons_succ]
                    refine wpAnyH_take (i := 2) (v := ?_) rfl (by kernel_rfl) (by kernel_rfl) (by kernel_rfl) (fun _ _ _ h => h) (Or.inl ⟨by rfl, ?_⟩) hHeld ?_
                    rotate_left
                    · intro w hSw; go_simp; try with_reducible rfl
                    try simp only [Act.put, List.setIfInBounds_toArray, List.set_cons_zero, List.set_cons_succ, List.getElem_toArray, List.getElem_cons_zero, List.getElem_cons_succ]
                    refine wpAnyH_take (i := 3) (v := ?_) rfl (by kernel_rfl) (by kernel_rfl) (by kernel_rfl) (fun _ _ _ h => h) (Or.inl ⟨by rfl, ?_⟩) hHeld ?_
                    rotate_left
                    · intro w hSw; go_simp; try with_reducible rfl
                    try simp only [Act.put, List.setIfInBounds_toArray, List.set_cons_zero, List.set_cons_succ, List.getElem_toArray, List.getElem_cons_zero, List.getElem_cons_succ]
                    refine wpAnyH_take (i := 4) (v := ?_) rfl (by kernel_rfl) (by kernel_rfl) (by kernel_rfl) (fun _ _ _ h => h) (Or.inl ⟨by rfl, ?_⟩) hHeld ?_
                    rotate_left
                    · intro w hSw; go_simp; try with_reducible rfl
                    try simp only [Act.put, List.setIfInBounds_toArray, List.set_cons_zero, List.set_cons_succ, List.getElem_toArray, List.getElem_cons_zero, List.getElem_cons_succ]
                    refine wpAnyH_take (i := 5) (v := ?_) rfl (by kernel_rfl) (by kernel_rfl) (by kernel_rfl) (fun _ _ _ h => h) (Or.inl ⟨by rfl, ?_⟩) hHeld ?_
                    rotate_left
                    · intro w hSw; go_simp; try with_reducible rfl
                    try simp only [Act.put, List.setIfInBounds_toArray, List.set_cons_zero, List.set_cons_succ, List.getElem_toArray, List.getElem_cons_zero, List.getElem_cons_succ]
                    refine wpAnyH_ready (rs := [6]) (by kernel_rfl) (by simp) ?_
                    refine AllReadyH.cons rfl (fun K hK => ?_) AllReadyH.nil
                    go_simp
                    go_at_call 22
                    refine Calls.mono hL1.out ?_
                    rintro e w4 ⟨rfl, P1, F1, hl⟩
                    have HR4 := Lib.hid (HR3.out.on1 hl)
                    have HC4 := Lib.hid (HST.out.cells HR4.out.fix HR4.out.chg HAa.out HKa.out.1 HCa.out (hB4.out _ _ _ _ hl).1)
                    go_wp2_with fail
                    refine hK.out _ _ HC4.out (fun hHeld => ?_)
                    clear hK K
                    try simp only [Act.put, List.setIfInBounds_toArray, List.set_cons_zero, List.set_cons_succ, List.getElem_toArray, List.getElem_cons_zero, List.getElem_cons_succ]
                    refine wpAnyH_take (i := 7) (v := ?_) rfl (by kernel_rfl) (by kernel_rfl) (by kernel_rfl) (fun _ _ _ h => h) (Or.inl ⟨by rfl, ?_⟩) hHeld ?_
                    rotate_left
                    · intro w hSw; go_simp; try with_reducible rfl
                    try simp only [Act.put, List.setIfInBounds_toArray, List.set_cons_zero, List.set_cons_succ, List.getElem_toArray, List.getElem_cons_zero, List.getElem_cons_succ]
                    refine wpAnyH_take (i := 8) (v := ?_) rfl (by kernel_rfl) (by kernel_rfl) (by kernel_rfl) (fun _ _ _ h => h) (Or.inl ⟨by rfl, ?_⟩) hHeld ?_
                    rotate_left
                    · intro w hSw; go_simp; try with_reducible rfl
                    try simp only [Act.put, List.setIfInBounds_toArray, List.set_cons_zero, List.set_cons_succ, List.getElem_toArray, List.getElem_cons_zero, List.getElem_cons_succ]
                    refine wpAnyH_take (i := 9) (v := ?_) rfl (by kernel_rfl) (by kernel_rfl) (by kernel_rfl) (fun _ _ _ h => h) (Or.inl ⟨by rfl, ?_⟩) hHeld ?_
                    rotate_left
                    · intro w hSw; go_simp; try with_reducible rfl
                    try simp only [Act.put, List.setIfInBounds_toArray, List.set_cons_zero, List.set_cons_succ, List.getElem_toArray, List.getElem_cons_zero, List.getElem_cons_succ]
                    refine wpAnyH_take (i := 10) (v := ?_) rfl (by kernel_rfl) (by kernel_rfl) (by kernel_rfl) (fun _ _ _ h => h) (Or.inl ⟨by rfl, ?_⟩) hHeld ?_
                    rotate_left
                    · intro w hSw; go_simp; try with_reducible rfl
                    try simp only [Act.put, List.setIfInBounds_toArray, List.set_cons_zero, List.set_cons_succ, List.getElem_toArray, List.getElem_cons_zero, List.getElem_cons_succ]
                    refine wpAnyH_take (i := 11) (v := ?_) rfl (by kernel_rfl) (by kernel_rfl) (by kernel_rfl) (fun _ _ _ h => h) (Or.inl ⟨by rfl, ?_⟩) hHeld ?_
                    rotate_left
                    · intro w hSw; go_simp; try with_reducible rfl
                    try simp only [Act.put, List.setIfInBounds_toArray, List.set_cons_zero, List.set_cons_succ, List.getElem_toArray, List.getElem_cons_zero, List.getElem_cons_succ]
                    refine wpAnyH_take (i := 12) (v := ?_) rfl (by kernel_rfl) (by kernel_rfl) (by kernel_rfl) (fun _ _ _ h => h) (Or.inl ⟨by rfl, ?_⟩) hHeld ?_
                    rotate_left
                    · intro w hSw; go_simp; try with_reducible rfl
                    try simp only [Act.put, List.setIfInBounds_toArray, List.set_cons_zero, List.set_cons_succ, List.getElem_toArray, List.getElem_cons_zero, List.getElem_cons_succ]
                    refine wpAnyH_take (i := 13) (v := ?_) rfl (by kernel_rfl) (by kernel_rfl) (by kernel_rfl) (fun _ _ _ h => h) (Or.inl ⟨by rfl, ?_⟩) hHeld ?_
                    rotate_left
                    · intro w hSw; go_simp; try with_reducible rfl
                    try simp only [Act.put, List.setIfInBounds_toArray, List.set_cons_zero, List.set_cons_succ, List.getElem_toArray, List.getElem_cons_zero, List.getElem_cons_succ]
                    refine wpAnyH_ready (rs := [14]) (by kernel_rfl) (by simp) ?_
                    refine AllReadyH.cons rfl (fun K hK => ?_) AllReadyH.nil
                    go_simp
                    go_at_call 22
                    refine Calls.mono (hL2.out w4 P1 F1 σ1 HR4.out) ?_
                    rintro e w5 ⟨rfl, P2, F2, hl2⟩
                    have HR5 := Lib.hid (HR4.out.on2 hl2)
                    have HB5 := Lib.hid (hB5.out _ _ _ _ _ _ _ _ hl hl2)
                    have HC5 := Lib.hid (HST.out.cells HR5.out.fix HR5.out.chg HAa.out HKa.out.1 HCa.out HB5.out.1)
                    go_wp2_with fail
                    refine hK.out _ _ HC5.out (fun hHeld => ?_)
                    clear hK K
                    try simp only [Act.put, List.setIfInBounds_toArray, List.set_cons_zero, List.set_cons_succ, List.getElem_toArray, List.getElem_cons_zero, List.getElem_cons_succ]
                    refine wpAnyH_take (i := 15) (v := ?_) rfl (by kernel_rfl) (by kernel_rfl) (by kernel_rfl) (fun _ _ _ h => h) (Or.inl ⟨by rfl, ?_⟩) hHeld ?_
                    rotate_left
                    · intro w hSw; go_simp; try with_reducible rfl
                    try simp only [Act.put, List.setIfInBounds_toArray, List.set_cons_zero, List.set_cons_succ, List.getElem_toArray, List.getElem_cons_zero, List.getElem_cons_succ]
                    refine wpAnyH_take (i := 16) (v := ?_) rfl (by kernel_rfl) (by kernel_rfl) (by kernel_rfl) (fun _ _ _ h => h) (Or.inl ⟨by rfl, ?_⟩) hHeld ?_
                    rotate_left
                    · intro w hSw; go_simp; try with_reducible rfl
                    try simp only [Act.put, List.setIfInBounds_toArray, List.set_cons_zero, List.set_cons_succ, List.getElem_toArray, List.getElem_cons_zero, List.getElem_cons_succ]
                    refine wpAnyH_take (i := 17) rfl (by kernel_rfl) (by kernel_rfl) (by kernel_rfl) (fun _ _ _ h => h) (Or.inr ⟨by rfl, rfl⟩) hHeld ?_
                    try simp only [Act.put, List.setIfInBounds_toArray, List.set_cons_zero, List.set_cons_succ, List.getElem_toArray, List.getElem_cons_zero, List.getElem_cons_succ]
                    refine wpAnyH_take (i := 18) rfl (by kernel_rfl) (by kernel_rfl) (by kernel_rfl) (fun _ _ _ h => h) (Or.inr ⟨by rfl, rfl⟩) hHeld ?_
                    try simp only [Act.put, List.setIfInBounds_toArray, List.set_cons_zero, List.set_cons_succ, List.getElem_toArray, List.getElem_cons_zero, List.getElem_cons_succ]
                    refine wpAnyH_take (i := 19) rfl (by kernel_rfl) (by kernel_rfl) (by kernel_rfl) (fun _ _ _ h => h) (Or.inr ⟨by rfl, rfl⟩) hHeld ?_
                    try simp only [Act.put, List.setIfInBounds_toArray, List.set_cons_zero, List.set_cons_succ, List.getElem_toArray, List.getElem_cons_zero, List.getElem_cons_succ]
                    refine wpAnyH_take (i := 20) rfl (by kernel_rfl) (by kernel_rfl) (by kernel_rfl) (fun _ _ _ h => h) (Or.inr ⟨by rfl, rfl⟩) hHeld ?_
                    try simp only [Act.put, List.setIfInBounds_toArray, List.set_cons_zero, List.set_cons_succ, List.getElem_toArray, List.getElem_cons_zero, List.getElem_cons_succ]
                    refine wpAnyH_take (i := 21) (v := ?_) rfl (by kernel_rfl) (by kernel_rfl) (by kernel_rfl) (fun _ _ _ h => h) (Or.inl ⟨by rfl, ?_⟩) hHeld ?_
                    rotate_left
                    · intro w hSw; go_simp; try with_reducible rfl
                    try simp only [Act.put, List.setIfInBounds_toArray, List.set_cons_zero, List.set_cons_succ, List.getElem_toArray, List.getElem_cons_zero, List.getElem_cons_succ]
                    refine wpAnyH_done (by kernel_rfl) ?_ _
                    clear hHeld
                    have Hτ0 : Hid (τ.length ≤ τ.length ∧ τ.take τ.length = τ) := Lib.hid ⟨Nat.le_refl _, List.take_length⟩
                    clear hl hl2 HC4 HCd HC5 HB5
                    obtain ⟨tu5, hu5⟩ := HR5.out.st.u
                    have qu5 := HR5.out.fix.qu
                    have q15 := HR5.out.fix.q1
                    have cu5 : w5.cell? ⟨X.ub, j, none⟩ = some (.bool true) := by rw [blk_cell hu5]; simp [hju]
                    have fu5 : w5.frozen? ⟨X.ub, j, none⟩ = false := blk_frozen hu5 j
                    have lu5 := blk_lt hu5
                    have n5 : X.bth ≠ X.ub := fun e => HR5.out.dis _ HR5.out.fix.k.2.2.2.1 (.inr (.inr (.inl e)))
                    clear hu5
                    go_wp2_with fail
                    refine (back_any _ P1 F1 X.m1 (σ1) σ.length Hσ0.out.1 (HR5.out.use j false).st.s1).mono ?_
                    rintro e w7 ⟨rfl, hst7, hc7, hs7⟩
                    have HR7 := Lib.hid ((HR5.out.use j false).back1 hst7 hc7)
                    clear hst7 hc7 hs7
                    have q27 := HR7.out.fix.q2
                    go_wp2_with fail
                    refine (back_any w7 P2 F2 X.m2 (τ) τ.length Hτ0.out.1 HR7.out.st.s2).mono ?_
                    rintro e w8 ⟨rfl, hst8, hc8, hs8⟩
                    have HR8 := Lib.hid (HR7.out.back2 hst8 hc8)
                    clear hst8 hc8 hs8
                    have hset : (us.set j true).set j false = us := by rw [List.set_set]; apply List.ext_getElem (by simp); intro q h1 h2; rw [List.getElem_set]; split; (subst_vars; exact Huj.out.symm); rfl
                    go_wp2_with fail
                    go_roundw
                    case rel => exact ⟨1, (n2 + 1), P1, F1, P2, F2, by omega, by go_num, by omega, Lib.hid (by have h8 := HR8.out; rw [hset, Hσ0.out.2, Hτ0.out.2] at h8; exact h8), Lib.hid (HG2.out _ _ (by rw [tryL_cons, if_neg hov, Hr1.out, Hr2.out]) rfl)⟩
                    case measure => simp [intOf]
                  | some τ1 =>
                    rw [hr2] at hL2
                    have Hr2 := Lib.hid hr2
                    have hL2 : Hid (∀ (w4 : World) (P1 F1 : Nat → Prop) (σ' : Sg), Run X w M1 M2 w4 P1 F1 N2 E2 σ' τ (us.set j true) (n2 + 1) → Calls Tryd.prog 22 #[.pointer (some ⟨X.m2, 0, none⟩), .agg #[.bool y.neg, .int .i64 y.l.hd, .slice B1 y.l.args.length d1, .int .i64 y.r.hd, .slice B2 y.r.args.length d2], .agg #[.bool x.neg, .int .i64 x.l.hd, .slice A1 x.l.args.length c1, .int .i64 x.r.hd, .slice A2 x.r.args.length c2], .bool false] w4 (fun e w' => e = .returned (.bool true) ∧ ∃ M' D', Left w4 N2 E2 X.m2 τ1 w' M' D')) := Lib.hid (fun w4 P1 F1 σ' h => Calls.mono (hL2.out w4 P1 F1 σ' h) (fun _ _ h => h))
                    obtain ⟨ext2, hx2, hx2l⟩ := litF_pre hr2
                    have Hτ0 : Hid (τ.length ≤ τ1.length ∧ τ1.take τ.length = τ) := Lib.hid (by subst hx2; exact ⟨by simp, List.take_left⟩)
                    have hτ1 : τ1.length ≤ (i + 1) * 2000000 := by rw [hx2, List.length_append]; omega
                    clear hr2 hx2 hx2l
                    have hm : (frm X.b xs σ1 τ1 (us.set j true) (n2 + 1)).2 ≤ 10005 := by have := frm_le X.b xs σ1 τ1 (us.set j true) (n2 + 1) (by omega); omega
                    cases hq : frm X.b xs σ1 τ1 (us.set j true) (n2 + 1) with
                    | mk bv m =>
                      rw [hq] at hm
                      have HM : Hid (m ≤ 10005) := Lib.hid hm
                      have Hq := Lib.hid hq
                      clear hm
                      cases bv with
                      | false =>
                        have hF3 : Hid (∀ (w5 : World) (P1 F1 P2 F2 : Nat → Prop), Run X w M1 M2 w5 P1 F1 P2 F2 σ1 τ1 (us.set j true) (n2 + 1) → Calls Tryd.prog 19 #[.int .i64 ((i : Int) + 1), .pointer (some ⟨X.ba, 0, none⟩), .pointer (some ⟨X.bb, 0, none⟩), .pointer (some ⟨X.bu, 0, none⟩), .pointer (some ⟨X.bt, 0, none⟩), .pointer (some ⟨X.bth, 0, none⟩), .pointer (some ⟨X.bba, 0, none⟩), .pointer (some ⟨X.bf, 0, none⟩)] w5 (fun e w' => e = .returned (.bool false) ∧ Chg (Wr P1 P2 X.ub X.bt) w5 w' ∧ ∃ Q1 G1 Q2 G2, Run X w5 P1 P2 w' Q1 G1 Q2 G2 σ1 τ1 (us.set j true) m)) := Lib.hid (fun w5 P1 F1 P2 F2 h => Calls.mono (hFr.out w5 P1 F1 P2 F2 σ1 τ1 hσ1 hτ1 h) (fun e w' hp => by rw [hq] at hp; exact ⟨hp.1, hp.2.1, hp.2.2 rfl⟩))
                        clear hq hFr
                        refine wp_region_held_drew (S := (fun w' => w'.cell? ⟨X.bth, 0, none⟩ = some (.pointer (some ⟨X.m1, 0, none⟩)) ∧ w'.cell? ⟨X.ba, 0, none⟩ = some (.slice (some ⟨ga, oa, none⟩) X.a.length X.ca) ∧ w'.cell? ⟨ga, oa + i * 5, none⟩ = some (.bool x.neg) ∧ w'.cell? ⟨ga, oa + i * 5 + 1, none⟩ = some (.int .i64 x.l.hd) ∧ w'.cell? ⟨ga, oa + i * 5 + 2, none⟩ = some (.slice A1 x.l.args.length c1) ∧ w'.cell? ⟨ga, oa + i * 5 + 3, none⟩ = some (.int .i64 x.r.hd) ∧ w'.cell? ⟨ga, oa + i * 5 + 4, none⟩ = some (.slice A2 x.r.args.length c2) ∧ w'.cell? ⟨wr.heap.size, 0, none⟩ = some (.bool y.neg) ∧ w'.cell? ⟨wr.heap.size, 1, none⟩ = some (.int .i64 y.l.hd) ∧ w'.cell? ⟨wr.heap.size, 2, none⟩ = some (.slice B1 y.l.args.length d1) ∧ w'.cell? ⟨wr.heap.size, 3, none⟩ = some (.int .i64 y.r.hd) ∧ w'.cell? ⟨wr.heap.size, 4, none⟩ = some (.slice B2 y.r.args.length d2) ∧ w'.cell? ⟨X.bba, 0, none⟩ = some (.pointer (some ⟨X.m2, 0, none⟩)) ∧ w'.cell? ⟨X.bf, 0, none⟩ = some (.func (.func 19) #[] #[.pointer (some ⟨X.ba, 0, none⟩), .pointer (some ⟨X.bb, 0, none⟩), .pointer (some ⟨X.bu, 0, none⟩), .pointer (some ⟨X.bt, 0, none⟩), .pointer (some ⟨X.bth, 0, none⟩), .pointer (some ⟨X.bba, 0, none⟩), .pointer (some ⟨X.bf, 0, none⟩)]))) (by kernel_rfl) HCd.out (fun hHeld => ?_)
                        refine wpAnyH_take (i := 0) (v := ?_) rfl (by kernel_rfl) (by kernel_rfl) (by kernel_rfl) (fun _ _ _ h => h) (Or.inl ⟨by rfl, ?_⟩) hHeld ?_
                        rotate_left
                        · intro w hSw; go_simp; try with_reducible rfl
                        try simp only [Act.put, List.setIfInBounds_toArray, List.set_cons_zero, List.set_cons_succ, List.getElem_toArray, List.getElem_cons_zero, List.getElem_cons_succ]
                        refine wpAnyH_take (i := 1) (v := ?_) rfl (by kernel_rfl) (by kernel_rfl) (by kernel_rfl) (fun _ _ _ h => h) (Or.inl ⟨by rfl, ?_⟩) hHeld ?_
                        rotate_left
                        · intro w hSw; go_simp; try with_reducible rfl
                        try simp only [Act.put, List.setIfInBounds_toArray, List.set_cons_zero, List.set_cons_succ, List.getElem_toArray, List.getElem_cons_zero, List.getElem_cons_succ]
                        refine wpAnyH_take (i := 2) (v := ?_) rfl (by kernel_rfl) (by kernel_rfl) (by kernel_rfl) (fun _ _ _ h => h) (Or.inl ⟨by rfl, ?_⟩) hHeld ?_
                        rotate_left
                        · intro w hSw; go_simp; try with_reducible rfl
                        try simp only [Act.put, List.setIfInBounds_toArray, List.set_cons_zero, List.set_cons_succ, List.getElem_toArray, List.getElem_cons_zero, List.getElem_cons_succ]
                        refine wpAnyH_take (i := 3) (v := ?_) rfl (by kernel_rfl) (by kernel_rfl) (by kernel_rfl) (fun _ _ _ h => h) (Or.inl ⟨by rfl, ?_⟩) hHeld ?_
                        rotate_left
                        · intro w hSw; go_simp; try with_reducible rfl
                        try simp only [Act.put, List.setIfInBounds_toArray, List.set_cons_zero, List.set_cons_succ, List.getElem_toArray, List.getElem_cons_zero, List.getElem_cons_succ]
                        refine wpAnyH_take (i := 4) (v := ?_) rfl (by kernel_rfl) (by kernel_rfl) (by kernel_rfl) (fun _ _ _ h => h) (Or.inl ⟨by rfl, ?_⟩) hHeld ?_
                        rotate_left
                        · intro w hSw; go_simp; try with_reducible rfl
                        try simp only [Act.put, List.setIfInBounds_toArray, List.set_cons_zero, List.set_cons_succ, List.getElem_toArray, List.getElem_cons_zero, List.getElem_cons_succ]
                        refine wpAnyH_take (i := 5) (v := ?_) rfl (by kernel_rfl) (by kernel_rfl) (by kernel_rfl) (fun _ _ _ h => h) (Or.inl ⟨by rfl, ?_⟩) hHeld ?_
                        rotate_left
                        · intro w hSw; go_simp; try with_reducible rfl
                        try simp only [Act.put, List.setIfInBounds_toArray, List.set_cons_zero, List.set_cons_succ, List.getElem_toArray, List.getElem_cons_zero, List.getElem_cons_succ]
                        refine wpAnyH_ready (rs := [6]) (by kernel_rfl) (by simp) ?_
                        refine AllReadyH.cons rfl (fun K hK => ?_) AllReadyH.nil
                        go_simp
                        go_at_call 22
                        refine Calls.mono hL1.out ?_
                        rintro e w4 ⟨rfl, P1, F1, hl⟩
                        have HR4 := Lib.hid (HR3.out.on1 hl)
                        have HC4 := Lib.hid (HST.out.cells HR4.out.fix HR4.out.chg HAa.out HKa.out.1 HCa.out (hB4.out _ _ _ _ hl).1)
                        go_wp2_with fail
                        refine hK.out _ _ HC4.out (fun hHeld => ?_)
                        clear hK K
                        try simp only [Act.put, List.setIfInBounds_toArray, List.set_cons_zero, List.set_cons_succ, List.getElem_toArray, List.getElem_cons_zero, List.getElem_cons_succ]
                        refine wpAnyH_take (i := 7) (v := ?_) rfl (by kernel_rfl) (by kernel_rfl) (by kernel_rfl) (fun _ _ _ h => h) (Or.inl ⟨by rfl, ?_⟩) hHeld ?_
                        rotate_left
                        · intro w hSw; go_simp; try with_reducible rfl
                        try simp only [Act.put, List.setIfInBounds_toArray, List.set_cons_zero, List.set_cons_succ, List.getElem_toArray, List.getElem_cons_zero, List.getElem_cons_succ]
                        refine wpAnyH_take (i := 8) (v := ?_) rfl (by kernel_rfl) (by kernel_rfl) (by kernel_rfl) (fun _ _ _ h => h) (Or.inl ⟨by rfl, ?_⟩) hHeld ?_
                        rotate_left
                        · intro w hSw; go_simp; try with_reducible rfl
                        try simp only [Act.put, List.setIfInBounds_toArray, List.set_cons_zero, List.set_cons_succ, List.getElem_toArray, List.getElem_cons_zero, List.getElem_cons_succ]
                        refine wpAnyH_take (i := 9) (v := ?_) rfl (by kernel_rfl) (by kernel_rfl) (by kernel_rfl) (fun _ _ _ h => h) (Or.inl ⟨by rfl, ?_⟩) hHeld ?_
                        rotate_left
                        · intro w hSw; go_simp; try with_reducible rfl
                        try simp only [Act.put, List.setIfInBounds_toArray, List.set_cons_zero, List.set_cons_succ, List.getElem_toArray, List.getElem_cons_zero, List.getElem_cons_succ]
                        refine wpAnyH_take (i := 10) (v := ?_) rfl (by kernel_rfl) (by kernel_rfl) (by kernel_rfl) (fun _ _ _ h => h) (Or.inl ⟨by rfl, ?_⟩) hHeld ?_
                        rotate_left
                        · intro w hSw; go_simp; try with_reducible rfl
                        try simp only [Act.put, List.setIfInBounds_toArray, List.set_cons_zero, List.set_cons_succ, List.getElem_toArray, List.getElem_cons_zero, List.getElem_cons_succ]
                        refine wpAnyH_take (i := 11) (v := ?_) rfl (by kernel_rfl) (by kernel_rfl) (by kernel_rfl) (fun _ _ _ h => h) (Or.inl ⟨by rfl, ?_⟩) hHeld ?_
                        rotate_left
                        · intro w hSw; go_simp; try with_reducible rfl
                        try simp only [Act.put, List.setIfInBounds_toArray, List.set_cons_zero, List.set_cons_succ, List.getElem_toArray, List.getElem_cons_zero, List.getElem_cons_succ]
                        refine wpAnyH_take (i := 12) (v := ?_) rfl (by kernel_rfl) (by kernel_rfl) (by kernel_rfl) (fun _ _ _ h => h) (Or.inl ⟨by rfl, ?_⟩) hHeld ?_
                        rotate_left
                        · intro w hSw; go_simp; try with_reducible rfl
                        try simp only [Act.put, List.setIfInBounds_toArray, List.set_cons_zero, List.set_cons_succ, List.getElem_toArray, List.getElem_cons_zero, List.getElem_cons_succ]
                        refine wpAnyH_take (i := 13) (v := ?_) rfl (by kernel_rfl) (by kernel_rfl) (by kernel_rfl) (fun _ _ _ h => h) (Or.inl ⟨by rfl, ?_⟩) hHeld ?_
                        rotate_left
                        · intro w hSw; go_simp; try with_reducible rfl
                        try simp only [Act.put, List.setIfInBounds_toArray, List.set_cons_zero, List.set_cons_succ, List.getElem_toArray, List.getElem_cons_zero, List.getElem_cons_succ]
                        refine wpAnyH_ready (rs := [14]) (by kernel_rfl) (by simp) ?_
                        refine AllReadyH.cons rfl (fun K hK => ?_) AllReadyH.nil
                        go_simp
                        go_at_call 22
                        refine Calls.mono (hL2.out w4 P1 F1 σ1 HR4.out) ?_
                        rintro e w5 ⟨rfl, P2, F2, hl2⟩
                        have HR5 := Lib.hid (HR4.out.on2 hl2)
                        have HB5 := Lib.hid (hB5.out _ _ _ _ _ _ _ _ hl hl2)
                        have HC5 := Lib.hid (HST.out.cells HR5.out.fix HR5.out.chg HAa.out HKa.out.1 HCa.out HB5.out.1)
                        go_wp2_with fail
                        refine hK.out _ _ HC5.out (fun hHeld => ?_)
                        clear hK K
                        try simp only [Act.put, List.setIfInBounds_toArray, List.set_cons_zero, List.set_cons_succ, List.getElem_toArray, List.getElem_cons_zero, List.getElem_cons_succ]
                        refine wpAnyH_take (i := 15) (v := ?_) rfl (by kernel_rfl) (by kernel_rfl) (by kernel_rfl) (fun _ _ _ h => h) (Or.inl ⟨by rfl, ?_⟩) hHeld ?_
                        rotate_left
                        · intro w hSw; go_simp; try with_reducible rfl
                        try simp only [Act.put, List.setIfInBounds_toArray, List.set_cons_zero, List.set_cons_succ, List.getElem_toArray, List.getElem_cons_zero, List.getElem_cons_succ]
                        refine wpAnyH_take (i := 16) (v := ?_) rfl (by kernel_rfl) (by kernel_rfl) (by kernel_rfl) (fun _ _ _ h => h) (Or.inl ⟨by rfl, ?_⟩) hHeld ?_
                        rotate_left
                        · intro w hSw; go_simp; try with_reducible rfl
                        try simp only [Act.put, List.setIfInBounds_toArray, List.set_cons_zero, List.set_cons_succ, List.getElem_toArray, List.getElem_cons_zero, List.getElem_cons_succ]
                        refine wpAnyH_take (i := 17) (v := ?_) rfl (by kernel_rfl) (by kernel_rfl) (by kernel_rfl) (fun _ _ _ h => h) (Or.inl ⟨by rfl, ?_⟩) hHeld ?_
                        rotate_left
                        · intro w hSw; go_simp; try with_reducible rfl
                        try simp only [Act.put, List.setIfInBounds_toArray, List.set_cons_zero, List.set_cons_succ, List.getElem_toArray, List.getElem_cons_zero, List.getElem_cons_succ]
                        refine wpAnyH_take (i := 18) (v := ?_) rfl (by kernel_rfl) (by kernel_rfl) (by kernel_rfl) (fun _ _ _ h => h) (Or.inl ⟨by rfl, ?_⟩) hHeld ?_
                        rotate_left
                        · intro w hSw; go_simp; try with_reducible rfl
                        try simp only [Act.put, List.setIfInBounds_toArray, List.set_cons_zero, List.set_cons_succ, List.getElem_toArray, List.getElem_cons_zero, List.getElem_cons_succ]
                        refine wpAnyH_take (i := 19) (v := ?_) rfl (by kernel_rfl) (by kernel_rfl) (by kernel_rfl) (fun _ _ _ h => h) (Or.inl ⟨by rfl, ?_⟩) hHeld ?_
                        rotate_left
                        · intro w hSw; go_simp; try with_reducible rfl
                        try simp only [Act.put, List.setIfInBounds_toArray, List.set_cons_zero, List.set_cons_succ, List.getElem_toArray, List.getElem_cons_zero, List.getElem_cons_succ]
                        refine wpAnyH_ready (rs := [20]) (by kernel_rfl) (by simp) ?_
                        refine AllReadyH.cons rfl (fun K hK => ?_) AllReadyH.nil
                        go_simp
                        go_at_call 19
                        refine Calls.mono (hF3.out w5 P1 F1 P2 F2 HR5.out) ?_
                        rintro e w6 ⟨rfl, hc6, Q1, G1, Q2, G2, hr6⟩
                        have HR6 := Lib.hid (HR5.out.trans hr6)
                        have HC6 := Lib.hid (HST.out.cells HR6.out.fix HR6.out.chg HAa.out HKa.out.1 HCa.out ((hc6.block _ (blk_lt HB5.out.1) HB5.out.2).trans HB5.out.1))
                        go_wp2_with fail
                        refine hK.out _ _ HC6.out (fun hHeld => ?_)
                        clear hK K
                        try simp only [Act.put, List.setIfInBounds_toArray, List.set_cons_zero, List.set_cons_succ, List.getElem_toArray, List.getElem_cons_zero, List.getElem_cons_succ]
                        refine wpAnyH_take (i := 21) (v := ?_) rfl (by kernel_rfl) (by kernel_rfl) (by kernel_rfl) (fun _ _ _ h => h) (Or.inl ⟨by rfl, ?_⟩) hHeld ?_
                        rotate_left
                        · intro w hSw; go_simp; try with_reducible rfl
                        try simp only [Act.put, List.setIfInBounds_toArray, List.set_cons_zero, List.set_cons_succ, List.getElem_toArray, List.getElem_cons_zero, List.getElem_cons_succ]
                        refine wpAnyH_done (by kernel_rfl) ?_ _
                        clear hHeld hl hl2 hc6 HC4 HCd HC5 HB5 HC6
                        clear hr6
                        obtain ⟨tu5, hu5⟩ := HR6.out.st.u
                        have qu5 := HR6.out.fix.qu
                        have q15 := HR6.out.fix.q1
                        have cu5 : w6.cell? ⟨X.ub, j, none⟩ = some (.bool true) := by rw [blk_cell hu5]; simp [hju]
                        have fu5 : w6.frozen? ⟨X.ub, j, none⟩ = false := blk_frozen hu5 j
                        have lu5 := blk_lt hu5
                        have n5 : X.bth ≠ X.ub := fun e => HR6.out.dis _ HR6.out.fix.k.2.2.2.1 (.inr (.inr (.inl e)))
                        clear hu5
                        go_wp2_with fail
                        refine (back_any _ Q1 G1 X.m1 (σ1) σ.length Hσ0.out.1 (HR6.out.use j false).st.s1).mono ?_
                        rintro e w7 ⟨rfl, hst7, hc7, hs7⟩
                        have HR7 := Lib.hid ((HR6.out.use j false).back1 hst7 hc7)
                        clear hst7 hc7 hs7
                        have q27 := HR7.out.fix.q2
                        go_wp2_with fail
                        refine (back_any w7 Q2 G2 X.m2 (τ1) τ.length Hτ0.out.1 HR7.out.st.s2).mono ?_
                        rintro e w8 ⟨rfl, hst8, hc8, hs8⟩
                        have HR8 := Lib.hid (HR7.out.back2 hst8 hc8)
                        clear hst8 hc8 hs8
                        have hset : (us.set j true).set j false = us := by rw [List.set_set]; apply List.ext_getElem (by simp); intro q h1 h2; rw [List.getElem_set]; split; (subst_vars; exact Huj.out.symm); rfl
                        go_wp2_with fail
                        go_roundw
                        case rel => exact ⟨1, m, Q1, G1, Q2, G2, by omega, by go_num, HM.out, Lib.hid (by have h8 := HR8.out; rw [hset, Hσ0.out.2, Hτ0.out.2] at h8; exact h8), Lib.hid (HG2.out _ _ (by rw [tryL_cons, if_neg hov, Hr1.out, Hr2.out]; simp [Hq.out]) rfl)⟩
                        case measure => simp [intOf]
                      | true =>
                        have hF3 : Hid (∀ (w5 : World) (P1 F1 P2 F2 : Nat → Prop), Run X w M1 M2 w5 P1 F1 P2 F2 σ1 τ1 (us.set j true) (n2 + 1) → Calls Tryd.prog 19 #[.int .i64 ((i : Int) + 1), .pointer (some ⟨X.ba, 0, none⟩), .pointer (some ⟨X.bb, 0, none⟩), .pointer (some ⟨X.bu, 0, none⟩), .pointer (some ⟨X.bt, 0, none⟩), .pointer (some ⟨X.bth, 0, none⟩), .pointer (some ⟨X.bba, 0, none⟩), .pointer (some ⟨X.bf, 0, none⟩)] w5 (fun e w' => e = .returned (.bool true) ∧ Chg (Wr P1 P2 X.ub X.bt) w5 w')) := Lib.hid (fun w5 P1 F1 P2 F2 h => Calls.mono (hFr.out w5 P1 F1 P2 F2 σ1 τ1 hσ1 hτ1 h) (fun e w' hp => by rw [hq] at hp; exact ⟨hp.1, hp.2.1⟩))
                        clear hq hFr
                        refine wp_region_held_drew (S := (fun w' => w'.cell? ⟨X.bth, 0, none⟩ = some (.pointer (some ⟨X.m1, 0, none⟩)) ∧ w'.cell? ⟨X.ba, 0, none⟩ = some (.slice (some ⟨ga, oa, none⟩) X.a.length X.ca) ∧ w'.cell? ⟨ga, oa + i * 5, none⟩ = some (.bool x.neg) ∧ w'.cell? ⟨ga, oa + i * 5 + 1, none⟩ = some (.int .i64 x.l.hd) ∧ w'.cell? ⟨ga, oa + i * 5 + 2, none⟩ = some (.slice A1 x.l.args.length c1) ∧ w'.cell? ⟨ga, oa + i * 5 + 3, none⟩ = some (.int .i64 x.r.hd) ∧ w'.cell? ⟨ga, oa + i * 5 + 4, none⟩ = some (.slice A2 x.r.args.length c2) ∧ w'.cell? ⟨wr.heap.size, 0, none⟩ = some (.bool y.neg) ∧ w'.cell? ⟨wr.heap.size, 1, none⟩ = some (.int .i64 y.l.hd) ∧ w'.cell? ⟨wr.heap.size, 2, none⟩ = some (.slice B1 y.l.args.length d1) ∧ w'.cell? ⟨wr.heap.size, 3, none⟩ = some (.int .i64 y.r.hd) ∧ w'.cell? ⟨wr.heap.size, 4, none⟩ = some (.slice B2 y.r.args.length d2) ∧ w'.cell? ⟨X.bba, 0, none⟩ = some (.pointer (some ⟨X.m2, 0, none⟩)) ∧ w'.cell? ⟨X.bf, 0, none⟩ = some (.func (.func 19) #[] #[.pointer (some ⟨X.ba, 0, none⟩), .pointer (some ⟨X.bb, 0, none⟩), .pointer (some ⟨X.bu, 0, none⟩), .pointer (some ⟨X.bt, 0, none⟩), .pointer (some ⟨X.bth, 0, none⟩), .pointer (some ⟨X.bba, 0, none⟩), .pointer (some ⟨X.bf, 0, none⟩)]))) (by kernel_rfl) HCd.out (fun hHeld => ?_)
                        refine wpAnyH_take (i := 0) (v := ?_) rfl (by kernel_rfl) (by kernel_rfl) (by kernel_rfl) (fun _ _ _ h => h) (Or.inl ⟨by rfl, ?_⟩) hHeld ?_
                        rotate_left
                        · intro w hSw; go_simp; try with_reducible rfl
                        try simp only [Act.put, List.setIfInBounds_toArray, List.set_cons_zero, List.set_cons_succ, List.getElem_toArray, List.getElem_cons_zero, List.getElem_cons_succ]
                        refine wpAnyH_take (i := 1) (v := ?_) rfl (by kernel_rfl) (by kernel_rfl) (by kernel_rfl) (fun _ _ _ h => h) (Or.inl ⟨by rfl, ?_⟩) hHeld ?_
                        rotate_left
                        · intro w hSw; go_simp; try with_reducible rfl
                        try simp only [Act.put, List.setIfInBounds_toArray, List.set_cons_zero, List.set_cons_succ, List.getElem_toArray, List.getElem_cons_zero, List.getElem_cons_succ]
                        refine wpAnyH_take (i := 2) (v := ?_) rfl (by kernel_rfl) (by kernel_rfl) (by kernel_rfl) (fun _ _ _ h => h) (Or.inl ⟨by rfl, ?_⟩) hHeld ?_
                        rotate_left
                        · intro w hSw; go_simp; try with_reducible rfl
                        try simp only [Act.put, List.setIfInBounds_toArray, List.set_cons_zero, List.set_cons_succ, List.getElem_toArray, List.getElem_cons_zero, List.getElem_cons_succ]
                        refine wpAnyH_take (i := 3) (v := ?_) rfl (by kernel_rfl) (by kernel_rfl) (by kernel_rfl) (fun _ _ _ h => h) (Or.inl ⟨by rfl, ?_⟩) hHeld ?_
                        rotate_left
                        · intro w hSw; go_simp; try with_reducible rfl
                        try simp only [Act.put, List.setIfInBounds_toArray, List.set_cons_zero, List.set_cons_succ, List.getElem_toArray, List.getElem_cons_zero, List.getElem_cons_succ]
                        refine wpAnyH_take (i := 4) (v := ?_) rfl (by kernel_rfl) (by kernel_rfl) (by kernel_rfl) (fun _ _ _ h => h) (Or.inl ⟨by rfl, ?_⟩) hHeld ?_
                        rotate_left
                        · intro w hSw; go_simp; try with_reducible rfl
                        try simp only [Act.put, List.setIfInBounds_toArray, List.set_cons_zero, List.set_cons_succ, List.getElem_toArray, List.getElem_cons_zero, List.getElem_cons_succ]
                        refine wpAnyH_take (i := 5) (v := ?_) rfl (by kernel_rfl) (by kernel_rfl) (by kernel_rfl) (fun _ _ _ h => h) (Or.inl ⟨by rfl, ?_⟩) hHeld ?_
                        rotate_left
                        · intro w hSw; go_simp; try with_reducible rfl
                        try simp only [Act.put, List.setIfInBounds_toArray, List.set_cons_zero, List.set_cons_succ, List.getElem_toArray, List.getElem_cons_zero, List.getElem_cons_succ]
                        refine wpAnyH_ready (rs := [6]) (by kernel_rfl) (by simp) ?_
                        refine AllReadyH.cons rfl (fun K hK => ?_) AllReadyH.nil
                        go_simp
                        go_at_call 22
                        refine Calls.mono hL1.out ?_
                        rintro e w4 ⟨rfl, P1, F1, hl⟩
                        have HR4 := Lib.hid (HR3.out.on1 hl)
                        have HC4 := Lib.hid (HST.out.cells HR4.out.fix HR4.out.chg HAa.out HKa.out.1 HCa.out (hB4.out _ _ _ _ hl).1)
                        go_wp2_with fail
                        refine hK.out _ _ HC4.out (fun hHeld => ?_)
                        clear hK K
                        try simp only [Act.put, List.setIfInBounds_toArray, List.set_cons_zero, List.set_cons_succ, List.getElem_toArray, List.getElem_cons_zero, List.getElem_cons_succ]
                        refine wpAnyH_take (i := 7) (v := ?_) rfl (by kernel_rfl) (by kernel_rfl) (by kernel_rfl) (fun _ _ _ h => h) (Or.inl ⟨by rfl, ?_⟩) hHeld ?_
                        rotate_left
                        · intro w hSw; go_simp; try with_reducible rfl
                        try simp only [Act.put, List.setIfInBounds_toArray, List.set_cons_zero, List.set_cons_succ, List.getElem_toArray, List.getElem_cons_zero, List.getElem_cons_succ]
                        refine wpAnyH_take (i := 8) (v := ?_) rfl (by kernel_rfl) (by kernel_rfl) (by kernel_rfl) (fun _ _ _ h => h) (Or.inl ⟨by rfl, ?_⟩) hHeld ?_
                        rotate_left
                        · intro w hSw; go_simp; try with_reducible rfl
                        try simp only [Act.put, List.setIfInBounds_toArray, List.set_cons_zero, List.set_cons_succ, List.getElem_toArray, List.getElem_cons_zero, List.getElem_cons_succ]
                        refine wpAnyH_take (i := 9) (v := ?_) rfl (by kernel_rfl) (by kernel_rfl) (by kernel_rfl) (fun _ _ _ h => h) (Or.inl ⟨by rfl, ?_⟩) hHeld ?_
                        rotate_left
                        · intro w hSw; go_simp; try with_reducible rfl
                        try simp only [Act.put, List.setIfInBounds_toArray, List.set_cons_zero, List.set_cons_succ, List.getElem_toArray, List.getElem_cons_zero, List.getElem_cons_succ]
                        refine wpAnyH_take (i := 10) (v := ?_) rfl (by kernel_rfl) (by kernel_rfl) (by kernel_rfl) (fun _ _ _ h => h) (Or.inl ⟨by rfl, ?_⟩) hHeld ?_
                        rotate_left
                        · intro w hSw; go_simp; try with_reducible rfl
                        try simp only [Act.put, List.setIfInBounds_toArray, List.set_cons_zero, List.set_cons_succ, List.getElem_toArray, List.getElem_cons_zero, List.getElem_cons_succ]
                        refine wpAnyH_take (i := 11) (v := ?_) rfl (by kernel_rfl) (by kernel_rfl) (by kernel_rfl) (fun _ _ _ h => h) (Or.inl ⟨by rfl, ?_⟩) hHeld ?_
                        rotate_left
                        · intro w hSw; go_simp; try with_reducible rfl
                        try simp only [Act.put, List.setIfInBounds_toArray, List.set_cons_zero, List.set_cons_succ, List.getElem_toArray, List.getElem_cons_zero, List.getElem_cons_succ]
                        refine wpAnyH_take (i := 12) (v := ?_) rfl (by kernel_rfl) (by kernel_rfl) (by kernel_rfl) (fun _ _ _ h => h) (Or.inl ⟨by rfl, ?_⟩) hHeld ?_
                        rotate_left
                        · intro w hSw; go_simp; try with_reducible rfl
                        try simp only [Act.put, List.setIfInBounds_toArray, List.set_cons_zero, List.set_cons_succ, List.getElem_toArray, List.getElem_cons_zero, List.getElem_cons_succ]
                        refine wpAnyH_take (i := 13) (v := ?_) rfl (by kernel_rfl) (by kernel_rfl) (by kernel_rfl) (fun _ _ _ h => h) (Or.inl ⟨by rfl, ?_⟩) hHeld ?_
                        rotate_left
                        · intro w hSw; go_simp; try with_reducible rfl
                        try simp only [Act.put, List.setIfInBounds_toArray, List.set_cons_zero, List.set_cons_succ, List.getElem_toArray, List.getElem_cons_zero, List.getElem_cons_succ]
                        refine wpAnyH_ready (rs := [14]) (by kernel_rfl) (by simp) ?_
                        refine AllReadyH.cons rfl (fun K hK => ?_) AllReadyH.nil
                        go_simp
                        go_at_call 22
                        refine Calls.mono (hL2.out w4 P1 F1 σ1 HR4.out) ?_
                        rintro e w5 ⟨rfl, P2, F2, hl2⟩
                        have HR5 := Lib.hid (HR4.out.on2 hl2)
                        have HB5 := Lib.hid (hB5.out _ _ _ _ _ _ _ _ hl hl2)
                        have HC5 := Lib.hid (HST.out.cells HR5.out.fix HR5.out.chg HAa.out HKa.out.1 HCa.out HB5.out.1)
                        go_wp2_with fail
                        refine hK.out _ _ HC5.out (fun hHeld => ?_)
                        clear hK K
                        try simp only [Act.put, List.setIfInBounds_toArray, List.set_cons_zero, List.set_cons_succ, List.getElem_toArray, List.getElem_cons_zero, List.getElem_cons_succ]
                        refine wpAnyH_take (i := 15) (v := ?_) rfl (by kernel_rfl) (by kernel_rfl) (by kernel_rfl) (fun _ _ _ h => h) (Or.inl ⟨by rfl, ?_⟩) hHeld ?_
                        rotate_left
                        · intro w hSw; go_simp; try with_reducible rfl
                        try simp only [Act.put, List.setIfInBounds_toArray, List.set_cons_zero, List.set_cons_succ, List.getElem_toArray, List.getElem_cons_zero, List.getElem_cons_succ]
                        refine wpAnyH_take (i := 16) (v := ?_) rfl (by kernel_rfl) (by kernel_rfl) (by kernel_rfl) (fun _ _ _ h => h) (Or.inl ⟨by rfl, ?_⟩) hHeld ?_
                        rotate_left
                        · intro w hSw; go_simp; try with_reducible rfl
                        try simp only [Act.put, List.setIfInBounds_toArray, List.set_cons_zero, List.set_cons_succ, List.getElem_toArray, List.getElem_cons_zero, List.getElem_cons_succ]
                        refine wpAnyH_take (i := 17) (v := ?_) rfl (by kernel_rfl) (by kernel_rfl) (by kernel_rfl) (fun _ _ _ h => h) (Or.inl ⟨by rfl, ?_⟩) hHeld ?_
                        rotate_left
                        · intro w hSw; go_simp; try with_reducible rfl
                        try simp only [Act.put, List.setIfInBounds_toArray, List.set_cons_zero, List.set_cons_succ, List.getElem_toArray, List.getElem_cons_zero, List.getElem_cons_succ]
                        refine wpAnyH_take (i := 18) (v := ?_) rfl (by kernel_rfl) (by kernel_rfl) (by kernel_rfl) (fun _ _ _ h => h) (Or.inl ⟨by rfl, ?_⟩) hHeld ?_
                        rotate_left
                        · intro w hSw; go_simp; try with_reducible rfl
                        try simp only [Act.put, List.setIfInBounds_toArray, List.set_cons_zero, List.set_cons_succ, List.getElem_toArray, List.getElem_cons_zero, List.getElem_cons_succ]
                        refine wpAnyH_take (i := 19) (v := ?_) rfl (by kernel_rfl) (by kernel_rfl) (by kernel_rfl) (fun _ _ _ h => h) (Or.inl ⟨by rfl, ?_⟩) hHeld ?_
                        rotate_left
                        · intro w hSw; go_simp; try with_reducible rfl
                        try simp only [Act.put, List.setIfInBounds_toArray, List.set_cons_zero, List.set_cons_succ, List.getElem_toArray, List.getElem_cons_zero, List.getElem_cons_succ]
                        refine wpAnyH_ready (rs := [20]) (by kernel_rfl) (by simp) ?_
                        refine AllReadyH.cons rfl (fun K hK => ?_) AllReadyH.nil
                        go_simp
                        go_at_call 19
                        refine Calls.mono (hF3.out w5 P1 F1 P2 F2 HR5.out) ?_
                        rintro e w6 ⟨rfl, hc6⟩
                        have HR6 := Lib.hid (HR5.out.go hc6)
                        have HC6 := Lib.hid (HST.out.cells HR6.out.1 HR6.out.2 HAa.out HKa.out.1 HCa.out ((hc6.block _ (blk_lt HB5.out.1) HB5.out.2).trans HB5.out.1))
                        go_wp2_with fail
                        refine hK.out _ _ HC6.out (fun hHeld => ?_)
                        clear hK K
                        try simp only [Act.put, List.setIfInBounds_toArray, List.set_cons_zero, List.set_cons_succ, List.getElem_toArray, List.getElem_cons_zero, List.getElem_cons_succ]
                        refine wpAnyH_take (i := 21) (v := ?_) rfl (by kernel_rfl) (by kernel_rfl) (by kernel_rfl) (fun _ _ _ h => h) (Or.inl ⟨by rfl, ?_⟩) hHeld ?_
                        rotate_left
                        · intro w hSw; go_simp; try with_reducible rfl
                        try simp only [Act.put, List.setIfInBounds_toArray, List.set_cons_zero, List.set_cons_succ, List.getElem_toArray, List.getElem_cons_zero, List.getElem_cons_succ]
                        refine wpAnyH_done (by kernel_rfl) ?_ _
                        clear hHeld hl hl2 hc6 HC4 HCd HC5 HB5 HC6
                        go_wp2_with fail
                        have hr : frm X.b (x :: xs) σ τ us n = (true, m) := by rw [← HG.out, show [y, y.turn].drop 0 = y :: [y.turn] from rfl, tryL, if_neg hov, Hr1.out, Hr2.out]; simp [Hq.out, contJ]
                        rw [hr]
                        go_ret
                        exact ⟨rfl, HR6.out.2, fun h => nomatch h⟩
            · by_cases hk1 : k = 1
              · subst hk1
                have hix := idx1 (.bool y.neg) (.int .i64 y.l.hd) (.slice B1 y.l.args.length d1) (.int .i64 y.r.hd) (.slice B2 y.r.args.length d2) (.bool y.neg) (.int .i64 y.r.hd) (.slice B2 y.r.args.length d2) (.int .i64 y.l.hd) (.slice B1 y.l.args.length d1)
                by_cases hov : 10000 < n2 + 1
                · go_wp2_with fail
                  have hr : frm X.b (x :: xs) σ τ us n = (false, n2 + 1) := by rw [← HG.out, show [y, y.turn].drop 1 = y.turn :: [] from rfl, tryL, if_pos hov]; rfl
                  have HR1 := (HQ.out.tick1).below ((Below.refl _ _).alloc (Nat.le_refl _) (.cells #[.bool y.neg, .int .i64 y.r.hd, .slice B2 y.r.args.length d2, .int .i64 y.l.hd, .slice B1 y.l.args.length d1] 32))
                  rw [hr]
                  go_ret
                  exact ⟨rfl, HR1.chg, fun _ => ⟨_, _, _, _, HR1⟩⟩
                · go_wp2_with fail
                  obtain ⟨w1, hw1⟩ : ∃ w1, (wr.setCell ⟨X.bt, 0, none⟩ (.int .i64 ((n2 : Int) + 1))).alloc (.cells #[.bool y.neg, .int .i64 y.r.hd, .slice B2 y.r.args.length d2, .int .i64 y.l.hd, .slice B1 y.l.args.length d1] 32) = w1 := ⟨_, rfl⟩
                  rw [hw1]
                  have HR1 : Hid (Run X w M1 M2 w1 N1 E1 N2 E2 σ τ us (n2 + 1)) := Lib.hid (hw1 ▸ ((HQ.out.tick1).below ((Below.refl _ _).alloc (Nat.le_refl _) _)))
                  have HBX : Hid (w1.heap[wr.heap.size]? = some (.cells #[.bool y.neg, .int .i64 y.r.hd, .slice B2 y.r.args.length d2, .int .i64 y.l.hd, .slice B1 y.l.args.length d1] 32 (0, 0))) := Lib.hid (by rw [← hw1]; exact blk_alloc_at _ _ _ (by rw [size_set]))
                  have hsz1 : wr.heap.size < w1.heap.size := blk_lt HBX.out
                  clear hw1 ct ft hix
                  have q1 := HR1.out.fix.q1
                  have q2 := HR1.out.fix.q2
                  have hmk1 := Lib.hid (fun (n : Nat) => (mark_any (w1.drewN n) N1 E1 X.m1 σ (HR1.out.st.s1.below (below_drewN (Below.refl _ _) _))).mono (R' := fun e w'' => e = .returned (.int .i64 σ.length) ∧ ∃ m, w'' = w1.drewN m) (by rintro e w' ⟨rfl, rfl⟩; exact ⟨rfl, n, rfl⟩))
                  have hmk2 := Lib.hid (fun (n : Nat) => (mark_any (w1.drewN n) N2 E2 X.m2 τ (HR1.out.st.s2.below (below_drewN (Below.refl _ _) _))).mono (R' := fun e w'' => e = .returned (.int .i64 τ.length) ∧ ∃ m, w'' = w1.drewN m) (by rintro e w' ⟨rfl, rfl⟩; exact ⟨rfl, n, rfl⟩))
                  go_quiet (first | (go_at_call 21; with_reducible exact hmk1.out _) | (go_at_call 21; with_reducible exact hmk2.out _))
                  clear hmk1 hmk2
                  have HR1 : Hid (Run X w M1 M2 (w1.drewN nq) N1 E1 N2 E2 σ τ us (n2 + 1)) := Lib.hid (HR1.out.below (below_drewN (Below.refl _ _) _))
                  have HBX : Hid ((w1.drewN nq).heap[wr.heap.size]? = some (.cells #[.bool y.neg, .int .i64 y.r.hd, .slice B2 y.r.args.length d2, .int .i64 y.l.hd, .slice B1 y.l.args.length d1] 32 (0, 0))) := HBX
                  generalize w1.drewN nq = w2 at *
                  clear q1 q2 hsz1
                  have hsz1 : wr.heap.size < w2.heap.size := blk_lt HBX.out
                  obtain ⟨tu1, hu1⟩ := HR1.out.st.u
                  have qu1 := HR1.out.fix.qu
                  have cu1 : w2.cell? ⟨X.ub, j, none⟩ = some (.bool us[j]) := by rw [blk_cell hu1]; simp [hju]
                  have fu1 : w2.frozen? ⟨X.ub, j, none⟩ = false := blk_frozen hu1 j
                  have lu1 := blk_lt hu1
                  have ult := HQ.out.st.ult
                  have tlt := HQ.out.st.tlt
                  clear hu1
                  go_wp2_with fail
                  obtain ⟨w3, hw3⟩ : ∃ w3, w2.setCell ⟨X.ub, j, none⟩ (.bool true) = w3 := ⟨_, rfl⟩
                  rw [hw3]
                  have HR3 : Hid (Run X w M1 M2 w3.drew N1 E1 N2 E2 σ τ (us.set j true) (n2 + 1)) := Lib.hid ((hw3 ▸ HR1.out.use j true).below (Below.refl _ _).drew)
                  have HBX3 : Hid (w3.drew.heap[wr.heap.size]? = some (.cells #[.bool y.neg, .int .i64 y.r.hd, .slice B2 y.r.args.length d2, .int .i64 y.l.hd, .slice B1 y.l.args.length d1] 32 (0, 0))) := Lib.hid (by show w3.heap[_]? = _; rw [← hw3, blk_set_ne (by omega)]; exact HBX.out)
                  have HNB : Hid (¬ N1 wr.heap.size ∧ ¬ N2 wr.heap.size) := Lib.hid ⟨fun h => absurd (HQ.out.st.s1.lt _ h) (by omega), fun h => absurd (HQ.out.st.s2.lt _ h) (by omega)⟩
                  clear hw3 cu1 fu1 qu1 HBX HR1 hsz1 lu1
                  have hszb : wr.heap.size < w3.drew.heap.size := blk_lt HBX3.out
                  have HCd := Lib.hid (HST.out.cells HR3.out.fix HR3.out.chg HAa.out HKa.out.1 HCa.out HBX3.out)
                  have HKK := Lib.hid (fun (W : World) (hc : Chg (Wr M1 M2 X.ub X.bt) w W) => And.intro (HST.out.k0 (d := Tm.rd) hc (fun _ h => h) (fun _ h => h) HKa.out.2.1) (And.intro (HST.out.k0 (d := Tm.rd) hc (fun _ h => h) (fun _ h => h) HKa.out.2.2) (And.intro (HST.out.k0 (d := Tm.rd) hc (fun _ h => h) (fun _ h => h) HKb.out.2.2) (HST.out.k0 (d := Tm.rd) hc (fun _ h => h) (fun _ h => h) HKb.out.2.1))))
                  have hnx := HN.out x (List.mem_append_left _ (HI.out.2 ▸ List.getElem_mem hlt))
                  have hny0 := HN.out y (List.mem_append_right _ (hy ▸ List.getElem_mem hjl))
                  have hny : Tm.AllH fits (y.turn).l ∧ Tm.AllH fits (y.turn).r ∧ (y.turn).l.nodes ≤ 1000000 ∧ (y.turn).r.nodes ≤ 1000000 := ⟨hny0.2.1, hny0.1, hny0.2.2.2, hny0.2.2.1⟩
                  have hnd := hnx.2.2
                  have hne := hny.2.2
                  have hi5 : i * 2000000 ≤ 10000000 := by omega
                  have HNX := Lib.hid (And.intro hnx hny)
                  clear hnx hny hny0
                  have hL1 : Hid (Calls Tryd.prog 22 #[.pointer (some ⟨X.m1, 0, none⟩), .agg #[.bool x.neg, .int .i64 x.l.hd, .slice A1 x.l.args.length c1, .int .i64 x.r.hd, .slice A2 x.r.args.length c2], .agg #[.bool y.neg, .int .i64 y.r.hd, .slice B2 y.r.args.length d2, .int .i64 y.l.hd, .slice B1 y.l.args.length d1], .bool false] w3.drew (TermPost w3.drew N1 E1 X.m1 σ (litF x y.turn σ))) :=
                    Lib.hid (Lit_any w3.drew N1 E1 X.Da X.Da X.m1 σ HR3.out.st.s1 x y.turn A1 A2 B2 B1 c1 c2 d2 d1 (HKK.out _ HR3.out.chg).1 (HKK.out _ HR3.out.chg).2.1 (HKK.out _ HR3.out.chg).2.2.1 (HKK.out _ HR3.out.chg).2.2.2 (fun k hk h => HR3.out.dis k hk (.inl h)) (fun k hk h => HR3.out.dis k hk (.inl h)) (by omega) HNX.out.1.1 HNX.out.1.2.1)
                  have hL2 : Hid (∀ (w4 : World) (P1 F1 : Nat → Prop) (σ' : Sg), Run X w M1 M2 w4 P1 F1 N2 E2 σ' τ (us.set j true) (n2 + 1) → Calls Tryd.prog 22 #[.pointer (some ⟨X.m2, 0, none⟩), .agg #[.bool y.neg, .int .i64 y.r.hd, .slice B2 y.r.args.length d2, .int .i64 y.l.hd, .slice B1 y.l.args.length d1], .agg #[.bool x.neg, .int .i64 x.l.hd, .slice A1 x.l.args.length c1, .int .i64 x.r.hd, .slice A2 x.r.args.length c2], .bool false] w4 (TermPost w4 N2 E2 X.m2 τ (litF y.turn x τ))) :=
                    Lib.hid (fun w4 P1 F1 σ' h => Lit_any w4 N2 E2 X.Da X.Da X.m2 τ h.st.s2 y.turn x B2 B1 A1 A2 d2 d1 c1 c2 (HKK.out _ h.chg).2.2.1 (HKK.out _ h.chg).2.2.2 (HKK.out _ h.chg).1 (HKK.out _ h.chg).2.1 (fun k hk h' => h.dis k hk (.inr (.inl h'))) (fun k hk h' => h.dis k hk (.inr (.inl h'))) (by omega) HNX.out.2.1 HNX.out.2.2.1)
                  have hB4 : Hid (∀ (w4 : World) (P1 F1 : Nat → Prop) (σ' : Sg), Left w3.drew N1 E1 X.m1 σ' w4 P1 F1 → w4.heap[wr.heap.size]? = some (.cells #[.bool y.neg, .int .i64 y.r.hd, .slice B2 y.r.args.length d2, .int .i64 y.l.hd, .slice B1 y.l.args.length d1] 32 (0, 0)) ∧ ¬ P1 wr.heap.size) := Lib.hid (fun w4 P1 F1 σ' h => ⟨(h.chg.block _ hszb HNB.out.1).trans HBX3.out, fun hp => by rcases h.m _ hp with hp | hp; exact HNB.out.1 hp; omega⟩)
                  have hB5 : Hid (∀ (w4 w5 : World) (P1 F1 P2 F2 : Nat → Prop) (σ' τ' : Sg), Left w3.drew N1 E1 X.m1 σ' w4 P1 F1 → Left w4 N2 E2 X.m2 τ' w5 P2 F2 → w5.heap[wr.heap.size]? = some (.cells #[.bool y.neg, .int .i64 y.r.hd, .slice B2 y.r.args.length d2, .int .i64 y.l.hd, .slice B1 y.l.args.length d1] 32 (0, 0)) ∧ ¬ Wr P1 P2 X.ub X.bt wr.heap.size) := Lib.hid (fun w4 w5 P1 F1 P2 F2 σ' τ' h h2 => ⟨(h2.chg.block _ (Nat.lt_of_lt_of_le hszb h.chg.size) HNB.out.2).trans (hB4.out _ _ _ _ h).1, fun hp => by
                    rcases hp with hp | hp | hp | hp
                    · exact (hB4.out _ _ _ _ h).2 hp
                    · rcases h2.m _ hp with hp | hp
                      · exact HNB.out.2 hp
                      · have := h.chg.size; omega
                    · omega
                    · omega⟩)
                  have hFr : Hid (∀ (w5 : World) (P1 F1 P2 F2 : Nat → Prop) (σ' τ' : Sg), σ'.length ≤ (i + 1) * 2000000 → τ'.length ≤ (i + 1) * 2000000 → Run X w M1 M2 w5 P1 F1 P2 F2 σ' τ' (us.set j true) (n2 + 1) → Calls Tryd.prog 19 #[.int .i64 ((i : Int) + 1), .pointer (some ⟨X.ba, 0, none⟩), .pointer (some ⟨X.bb, 0, none⟩), .pointer (some ⟨X.bu, 0, none⟩), .pointer (some ⟨X.bt, 0, none⟩), .pointer (some ⟨X.bth, 0, none⟩), .pointer (some ⟨X.bba, 0, none⟩), .pointer (some ⟨X.bf, 0, none⟩)] w5
                      (FromPost X w5 P1 P2 σ' τ' (us.set j true) (frm X.b xs σ' τ' (us.set j true) (n2 + 1)))) :=
                    Lib.hid (fun w5 P1 F1 P2 F2 σ' τ' h1 h2 h => by
                      have := IH.out (i + 1) (take_step HI.out.1) hlt w5 P1 F1 P2 F2 σ' τ' (us.set j true) (n2 + 1) h.self (by simpa using hul) (by omega) h1 h2
                      rwa [show ((i + 1 : Nat) : Int) = (i : Int) + 1 from by omega] at this)
                  have hxs : xs.length ≤ 4 := by have h5 := congrArg List.length HI.out.1; simp at h5; omega
                  have hwr : IntKind.i64.wrap ((i : Int) + 1) = (i : Int) + 1 := IntWalk.i64_in _ (by omega)
                  have HG2 : Hid (∀ m q, tryL (frm X.b xs) x σ τ us j (y.turn :: []) n2 = tryL (frm X.b xs) x σ τ us j [] m → q = m → contJ (frm X.b xs) x σ τ us (X.b.drop (j + 1)) j (tryL (frm X.b xs) x σ τ us j ([y, y.turn].drop 2) q) = frm X.b (x :: xs) σ τ us n) := Lib.hid (fun m q h e => by subst e; rw [← HG.out, show [y, y.turn].drop 1 = y.turn :: [] from rfl, h]; rfl)
                  have hqu := HST.out.fix.k
                  cases hr1 : litF x y.turn σ with
                  | none =>
                    rw [hr1] at hL1
                    have Hr1 := Lib.hid hr1
                    have hL1 : Hid (Calls Tryd.prog 22 #[.pointer (some ⟨X.m1, 0, none⟩), .agg #[.bool x.neg, .int .i64 x.l.hd, .slice A1 x.l.args.length c1, .int .i64 x.r.hd, .slice A2 x.r.args.length c2], .agg #[.bool y.neg, .int .i64 y.r.hd, .slice B2 y.r.args.length d2, .int .i64 y.l.hd, .slice B1 y.l.args.length d1], .bool false] w3.drew (fun e w' => e = .returned (.bool false) ∧ ∃ M' D', Left w3.drew N1 E1 X.m1 σ w' M' D')) := Lib.hid (Calls.mono hL1.out (fun _ _ h => h))
                    clear hr1 hL2 hFr
                    refine wp_region_held_drew (S := (fun w' => w'.cell? ⟨X.bth, 0, none⟩ = some (.pointer (some ⟨X.m1, 0, none⟩)) ∧ w'.cell? ⟨X.ba, 0, none⟩ = some (.slice (some ⟨ga, oa, none⟩) X.a.length X.ca) ∧ w'.cell? ⟨ga, oa + i * 5, none⟩ = some (.bool x.neg) ∧ w'.cell? ⟨ga, oa + i * 5 + 1, none⟩ = some (.int .i64 x.l.hd) ∧ w'.cell? ⟨ga, oa + i * 5 + 2, none⟩ = some (.slice A1 x.l.args.length c1) ∧ w'.cell? ⟨ga, oa + i * 5 + 3, none⟩ = some (.int .i64 x.r.hd) ∧ w'.cell? ⟨ga, oa + i * 5 + 4, none⟩ = some (.slice A2 x.r.args.length c2) ∧ w'.cell? ⟨wr.heap.size, 0, none⟩ = some (.bool y.neg) ∧ w'.cell? ⟨wr.heap.size, 1, none⟩ = some (.int .i64 y.r.hd) ∧ w'.cell? ⟨wr.heap.size, 2, none⟩ = some (.slice B2 y.r.args.length d2) ∧ w'.cell? ⟨wr.heap.size, 3, none⟩ = some (.int .i64 y.l.hd) ∧ w'.cell? ⟨wr.heap.size, 4, none⟩ = some (.slice B1 y.l.args.length d1) ∧ w'.cell? ⟨X.bba, 0, none⟩ = some (.pointer (some ⟨X.m2, 0, none⟩)) ∧ w'.cell? ⟨X.bf, 0, none⟩ = some (.func (.func 19) #[] #[.pointer (some ⟨X.ba, 0, none⟩), .pointer (some ⟨X.bb, 0, none⟩), .pointer (some ⟨X.bu, 0, none⟩), .pointer (some ⟨X.bt, 0, none⟩), .pointer (some ⟨X.bth, 0, none⟩), .pointer (some ⟨X.bba, 0, none⟩), .pointer (some ⟨X.bf, 0, none⟩)]))) (by kernel_rfl) HCd.out (fun hHeld => ?_)
                    refine wpAnyH_take (i := 0) (v := ?_) rfl (by kernel_rfl) (by kernel_rfl) (by kernel_rfl) (fun _ _ _ h => h) (Or.inl ⟨by rfl, ?_⟩) hHeld ?_
                    rotate_left
                    · intro w hSw; go_simp; try with_reducible rfl
                    try simp only [Act.put, List.setIfInBounds_toArray, List.set_cons_zero, List.set_cons_succ, List.getElem_toArray, List.getElem_cons_zero, List.getElem_cons_succ]
                    refine wpAnyH_take (i := 1) (v := ?_) rfl (by kernel_rfl) (by kernel_rfl) (by kernel_rfl) (fun _ _ _ h => h) (Or.inl ⟨by rfl, ?_⟩) hHeld ?_
                    rotate_left
                    · intro w hSw; go_simp; try with_reducible rfl
                    try simp only [Act.put, List.setIfInBounds_toArray, List.set_cons_zero, List.set_cons_succ, List.getElem_toArray, List.getElem_cons_zero, List.getElem_cons_succ]
                    refine wpAnyH_take (i := 2) (v := ?_) rfl (by kernel_rfl) (by kernel_rfl) (by kernel_rfl) (fun _ _ _ h => h) (Or.inl ⟨by rfl, ?_⟩) hHeld ?_
                    rotate_left
                    · intro w hSw; go_simp; try with_reducible rfl
                    try simp only [Act.put, List.setIfInBounds_toArray, List.set_cons_zero, List.set_cons_succ, List.getElem_toArray, List.getElem_cons_zero, List.getElem_cons_succ]
                    refine wpAnyH_take (i := 3) (v := ?_) rfl (by kernel_rfl) (by kernel_rfl) (by kernel_rfl) (fun _ _ _ h => h) (Or.inl ⟨by rfl, ?_⟩) hHeld ?_
                    rotate_left
                    · intro w hSw; go_simp; try with_reducible rfl
                    try simp only [Act.put, List.setIfInBounds_toArray, List.set_cons_zero, List.set_cons_succ, List.getElem_toArray, List.getElem_cons_zero, List.getElem_cons_succ]
                    refine wpAnyH_take (i := 4) (v := ?_) rfl (by kernel_rfl) (by kernel_rfl) (by kernel_rfl) (fun _ _ _ h => h) (Or.inl ⟨by rfl, ?_⟩) hHeld ?_
                    rotate_left
                    · intro w hSw; go_simp; try with_reducible rfl
                    try simp only [Act.put, List.setIfInBounds_toArray, List.set_cons_zero, List.set_cons_succ, List.getElem_toArray, List.getElem_cons_zero, List.getElem_cons_succ]
                    refine wpAnyH_take (i := 5) (v := ?_) rfl (by kernel_rfl) (by kernel_rfl) (by kernel_rfl) (fun _ _ _ h => h) (Or.inl ⟨by rfl, ?_⟩) hHeld ?_
                    rotate_left
                    · intro w hSw; go_simp; try with_reducible rfl
                    try simp only [Act.put, List.setIfInBounds_toArray, List.set_cons_zero, List.set_cons_succ, List.getElem_toArray, List.getElem_cons_zero, List.getElem_cons_succ]
                    refine wpAnyH_ready (rs := [6]) (by kernel_rfl) (by simp) ?_
                    refine AllReadyH.cons rfl (fun K hK => ?_) AllReadyH.nil
                    go_simp
                    go_at_call 22
                    refine Calls.mono hL1.out ?_
                    rintro e w4 ⟨rfl, P1, F1, hl⟩
                    have HR4 := Lib.hid (HR3.out.on1 hl)
                    have HC4 := Lib.hid (HST.out.cells HR4.out.fix HR4.out.chg HAa.out HKa.out.1 HCa.out (hB4.out _ _ _ _ hl).1)
                    go_wp2_with fail
                    refine hK.out _ _ HC4.out (fun hHeld => ?_)
                    clear hK K
                    try simp only [Act.put, List.setIfInBounds_toArray, List.set_cons_zero, List.set_cons_succ, List.getElem_toArray, List.getElem_cons_zero, List.getElem_cons_succ]
                    refine wpAnyH_take (i := 7) (v := ?_) rfl (by kernel_rfl) (by kernel_rfl) (by kernel_rfl) (fun _ _ _ h => h) (Or.inl ⟨by rfl, ?_⟩) hHeld ?_
                    rotate_left
                    · intro w hSw; go_simp; try with_reducible rfl
                    try simp only [Act.put, List.setIfInBounds_toArray, List.set_cons_zero, List.set_cons_succ, List.getElem_toArray, List.getElem_cons_zero, List.getElem_cons_succ]
                    refine wpAnyH_take (i := 8) rfl (by kernel_rfl) (by kernel_rfl) (by kernel_rfl) (fun _ _ _ h => h) (Or.inr ⟨by rfl, rfl⟩) hHeld ?_
                    try simp only [Act.put, List.setIfInBounds_toArray, List.set_cons_zero, List.set_cons_succ, List.getElem_toArray, List.getElem_cons_zero, List.getElem_cons_succ]
                    refine wpAnyH_take (i := 9) rfl (by kernel_rfl) (by kernel_rfl) (by kernel_rfl) (fun _ _ _ h => h) (Or.inr ⟨by rfl, rfl⟩) hHeld ?_
                    try simp only [Act.put, List.setIfInBounds_toArray, List.set_cons_zero, List.set_cons_succ, List.getElem_toArray, List.getElem_cons_zero, List.getElem_cons_succ]
                    refine wpAnyH_take (i := 10) rfl (by kernel_rfl) (by kernel_rfl) (by kernel_rfl) (fun _ _ _ h => h) (Or.inr ⟨by rfl, rfl⟩) hHeld ?_
                    try simp only [Act.put, List.setIfInBounds_toArray, List.set_cons_zero, List.set_cons_succ, List.getElem_toArray, List.getElem_cons_zero, List.getElem_cons_succ]
                    refine wpAnyH_take (i := 11) rfl (by kernel_rfl) (by kernel_rfl) (by kernel_rfl) (fun _ _ _ h => h) (Or.inr ⟨by rfl, rfl⟩) hHeld ?_
                    try simp only [Act.put, List.setIfInBounds_toArray, List.set_cons_zero, List.set_cons_succ, List.getElem_toArray, List.getElem_cons_zero, List.getElem_cons_succ]
                    refine wpAnyH_take (i := 12) rfl (by kernel_rfl) (by kernel_rfl) (by kernel_rfl) (fun _ _ _ h => h) (Or.inr ⟨by rfl, rfl⟩) hHeld ?_
                    try simp only [Act.put, List.setIfInBounds_toArray, List.set_cons_zero, List.set_cons_succ, List.getElem_toArray, List.getElem_cons_zero, List.getElem_cons_succ]
                    refine wpAnyH_take (i := 13) rfl (by kernel_rfl) (by kernel_rfl) (by kernel_rfl) (fun _ _ _ h => h) (Or.inr ⟨by rfl, rfl⟩) hHeld ?_
                    try simp only [Act.put, List.setIfInBounds_toArray, List.set_cons_zero, List.set_cons_succ, List.getElem_toArray, List.getElem_cons_zero, List.getElem_cons_succ]
                    refine wpAnyH_take (i := 14) rfl (by kernel_rfl) (by kernel_rfl) (by kernel_rfl) (fun _ _ _ h => h) (Or.inr ⟨by rfl, rfl⟩) hHeld ?_
                    try simp only [Act.put, List.setIfInBounds_toArray, List.set_cons_zero, List.set_cons_succ, List.getElem_toArray, List.getElem_cons_zero, List.getElem_cons_succ]
                    refine wpAnyH_take (i := 15) (v := ?_) rfl (by kernel_rfl) (by kernel_rfl) (by kernel_rfl) (fun _ _ _ h => h) (Or.inl ⟨by rfl, ?_⟩) hHeld ?_
                    rotate_left
                    · intro w hSw; go_simp; try with_reducible rfl
                    try simp only [Act.put, List.setIfInBounds_toArray, List.set_cons_zero, List.set_cons_succ, List.getElem_toArray, List.getElem_cons_zero, List.getElem_cons_succ]
                    refine wpAnyH_take (i := 16) (v := ?_) rfl (by kernel_rfl) (by kernel_rfl) (by kernel_rfl) (fun _ _ _ h => h) (Or.inl ⟨by rfl, ?_⟩) hHeld ?_
                    rotate_left
                    · intro w hSw; go_simp; try with_reducible rfl
                    try simp only [Act.put, List.setIfInBounds_toArray, List.set_cons_zero, List.set_cons_succ, List.getElem_toArray, List.getElem_cons_zero, List.getElem_cons_succ]
                    refine wpAnyH_take (i := 17) rfl (by kernel_rfl) (by kernel_rfl) (by kernel_rfl) (fun _ _ _ h => h) (Or.inr ⟨by rfl, rfl⟩) hHeld ?_
                    try simp only [Act.put, List.setIfInBounds_toArray, List.set_cons_zero, List.set_cons_succ, List.getElem_toArray, List.getElem_cons_zero, List.getElem_cons_succ]
                    refine wpAnyH_take (i := 18) rfl (by kernel_rfl) (by kernel_rfl) (by kernel_rfl) (fun _ _ _ h => h) (Or.inr ⟨by rfl, rfl⟩) hHeld ?_
                    try simp only [Act.put, List.setIfInBounds_toArray, List.set_cons_zero, List.set_cons_succ, List.getElem_toArray, List.getElem_cons_zero, List.getElem_cons_succ]
                    refine wpAnyH_take (i := 19) rfl (by kernel_rfl) (by kernel_rfl) (by kernel_rfl) (fun _ _ _ h => h) (Or.inr ⟨by rfl, rfl⟩) hHeld ?_
                    try simp only [Act.put, List.setIfInBounds_toArray, List.set_cons_zero, List.set_cons_succ, List.getElem_toArray, List.getElem_cons_zero, List.getElem_cons_succ]
                    refine wpAnyH_take (i := 20) rfl (by kernel_rfl) (by kernel_rfl) (by kernel_rfl) (fun _ _ _ h => h) (Or.inr ⟨by rfl, rfl⟩) hHeld ?_
                    try simp only [Act.put, List.setIfInBounds_toArray, List.set_cons_zero, List.set_cons_succ, List.getElem_toArray, List.getElem_cons_zero, List.getElem_cons_succ]
                    refine wpAnyH_take (i := 21) (v := ?_) rfl (by kernel_rfl) (by kernel_rfl) (by kernel_rfl) (fun _ _ _ h => h) (Or.inl ⟨by rfl, ?_⟩) hHeld ?_
                    rotate_left
                    · intro w hSw; go_simp; try with_reducible rfl
                    try simp only [Act.put, List.setIfInBounds_toArray, List.set_cons_zero, List.set_cons_succ, List.getElem_toArray, List.getElem_cons_zero, List.getElem_cons_succ]
                    refine wpAnyH_done (by kernel_rfl) ?_ _
                    clear hHeld
                    have Hσ0 : Hid (σ.length ≤ σ.length ∧ σ.take σ.length = σ) := Lib.hid ⟨Nat.le_refl _, List.take_length⟩
                    have Hτ0 : Hid (τ.length ≤ τ.length ∧ τ.take τ.length = τ) := Lib.hid ⟨Nat.le_refl _, List.take_length⟩
                    clear hl HC4 HCd
                    obtain ⟨tu5, hu5⟩ := HR4.out.st.u
                    have qu5 := HR4.out.fix.qu
                    have q15 := HR4.out.fix.q1
                    have cu5 : w4.cell? ⟨X.ub, j, none⟩ = some (.bool true) := by rw [blk_cell hu5]; simp [hju]
                    have fu5 : w4.frozen? ⟨X.ub, j, none⟩ = false := blk_frozen hu5 j
                    have lu5 := blk_lt hu5
                    have n5 : X.bth ≠ X.ub := fun e => HR4.out.dis _ HR4.out.fix.k.2.2.2.1 (.inr (.inr (.inl e)))
                    clear hu5
                    go_wp2_with fail
                    refine (back_any _ P1 F1 X.m1 (σ) σ.length Hσ0.out.1 (HR4.out.use j false).st.s1).mono ?_
                    rintro e w7 ⟨rfl, hst7, hc7, hs7⟩
                    have HR7 := Lib.hid ((HR4.out.use j false).back1 hst7 hc7)
                    clear hst7 hc7 hs7
                    have q27 := HR7.out.fix.q2
                    go_wp2_with fail
                    refine (back_any w7 N2 E2 X.m2 (τ) τ.length Hτ0.out.1 HR7.out.st.s2).mono ?_
                    rintro e w8 ⟨rfl, hst8, hc8, hs8⟩
                    have HR8 := Lib.hid (HR7.out.back2 hst8 hc8)
                    clear hst8 hc8 hs8
                    have hset : (us.set j true).set j false = us := by rw [List.set_set]; apply List.ext_getElem (by simp); intro q h1 h2; rw [List.getElem_set]; split; (subst_vars; exact Huj.out.symm); rfl
                    go_wp2_with fail
                    go_roundw
                    case rel => exact ⟨2, (n2 + 1), P1, F1, N2, E2, by omega, by go_num, by omega, Lib.hid (by have h8 := HR8.out; rw [hset, Hσ0.out.2, Hτ0.out.2] at h8; exact h8), Lib.hid (HG2.out _ _ (by rw [tryL_cons, if_neg hov, Hr1.out]) rfl)⟩
                    case measure => simp [intOf]
                  | some σ1 =>
                    rw [hr1] at hL1
                    have Hr1 := Lib.hid hr1
                    have hL1 : Hid (Calls Tryd.prog 22 #[.pointer (some ⟨X.m1, 0, none⟩), .agg #[.bool x.neg, .int .i64 x.l.hd, .slice A1 x.l.args.length c1, .int .i64 x.r.hd, .slice A2 x.r.args.length c2], .agg #[.bool y.neg, .int .i64 y.r.hd, .slice B2 y.r.args.length d2, .int .i64 y.l.hd, .slice B1 y.l.args.length d1], .bool false] w3.drew (fun e w' => e = .returned (.bool true) ∧ ∃ M' D', Left w3.drew N1 E1 X.m1 σ1 w' M' D')) := Lib.hid (Calls.mono hL1.out (fun _ _ h => h))
                    obtain ⟨ext1, hx1, hx1l⟩ := litF_pre hr1
                    have Hσ0 : Hid (σ.length ≤ σ1.length ∧ σ1.take σ.length = σ) := Lib.hid (by subst hx1; exact ⟨by simp, List.take_left⟩)
                    have hσ1 : σ1.length ≤ (i + 1) * 2000000 := by rw [hx1, List.length_append]; omega
                    clear hr1 hx1 hx1l
                    cases hr2 : litF y.turn x τ with
                    | none =>
                      rw [hr2] at hL2
                      have Hr2 := Lib.hid hr2
                      have hL2 : Hid (∀ (w4 : World) (P1 F1 : Nat → Prop) (σ' : Sg), Run X w M1 M2 w4 P1 F1 N2 E2 σ' τ (us.set j true) (n2 + 1) → Calls Tryd.prog 22 #[.pointer (some ⟨X.m2, 0, none⟩), .agg #[.bool y.neg, .int .i64 y.r.hd, .slice B2 y.r.args.length d2, .int .i64 y.l.hd, .slice B1 y.l.args.length d1], .agg #[.bool x.neg, .int .i64 x.l.hd, .slice A1 x.l.args.length c1, .int .i64 x.r.hd, .slice A2 x.r.args.length c2], .bool false] w4 (fun e w' => e = .returned (.bool false) ∧ ∃ M' D', Left w4 N2 E2 X.m2 τ w' M' D')) := Lib.hid (fun w4 P1 F1 σ' h => Calls.mono (hL2.out w4 P1 F1 σ' h) (fun _ _ h => h))
                      clear hr2 hFr
                      refine wp_region_held_drew (S := (fun w' => w'.cell? ⟨X.bth, 0, none⟩ = some (.pointer (some ⟨X.m1, 0, none⟩)) ∧ w'.cell? ⟨X.ba, 0, none⟩ = some (.slice (some ⟨ga, oa, none⟩) X.a.length X.ca) ∧ w'.cell? ⟨ga, oa + i * 5, none⟩ = some (.bool x.neg) ∧ w'.cell? ⟨ga, oa + i * 5 + 1, none⟩ = some (.int .i64 x.l.hd) ∧ w'.cell? ⟨ga, oa + i * 5 + 2, none⟩ = some (.slice A1 x.l.args.length c1) ∧ w'.cell? ⟨ga, oa + i * 5 + 3, none⟩ = some (.int .i64 x.r.hd) ∧ w'.cell? ⟨ga, oa + i * 5 + 4, none⟩ = some (.slice A2 x.r.args.length c2) ∧ w'.cell? ⟨wr.heap.size, 0, none⟩ = some (.bool y.neg) ∧ w'.cell? ⟨wr.heap.size, 1, none⟩ = some (.int .i64 y.r.hd) ∧ w'.cell? ⟨wr.heap.size, 2, none⟩ = some (.slice B2 y.r.args.length d2) ∧ w'.cell? ⟨wr.heap.size, 3, none⟩ = some (.int .i64 y.l.hd) ∧ w'.cell? ⟨wr.heap.size, 4, none⟩ = some (.slice B1 y.l.args.length d1) ∧ w'.cell? ⟨X.bba, 0, none⟩ = some (.pointer (some ⟨X.m2, 0, none⟩)) ∧ w'.cell? ⟨X.bf, 0, none⟩ = some (.func (.func 19) #[] #[.pointer (some ⟨X.ba, 0, none⟩), .pointer (some ⟨X.bb, 0, none⟩), .pointer (some ⟨X.bu, 0, none⟩), .pointer (some ⟨X.bt, 0, none⟩), .pointer (some ⟨X.bth, 0, none⟩), .pointer (some ⟨X.bba, 0, none⟩), .pointer (some ⟨X.bf, 0, none⟩)]))) (by kernel_rfl) HCd.out (fun hHeld => ?_)
                      refine wpAnyH_take (i := 0) (v := ?_) rfl (by kernel_rfl) (by kernel_rfl) (by kernel_rfl) (fun _ _ _ h => h) (Or.inl ⟨by rfl, ?_⟩) hHeld ?_
                      rotate_left
                      · intro w hSw; go_simp; try with_reducible rfl
                      try simp only [Act.put, List.setIfInBounds_toArray, List.set_cons_zero, List.set_cons_succ, List.getElem_toArray, List.getElem_cons_zero, List.getElem_cons_succ]
                      refine wpAnyH_take (i := 1) (v := ?_) rfl (by kernel_rfl) (by kernel_rfl) (by kernel_rfl) (fun _ _ _ h => h) (Or.inl ⟨by rfl, ?_⟩) hHeld ?_
                      rotate_left
                      · intro w hSw; go_simp; try with_reducible rfl
                      try simp only [Act.put, List.setIfInBounds_toArray, List.set_cons_zero, List.set_cons_succ, List.getElem_toArray, List.getElem_cons_zero, List.getElem_cons_succ]
                      refine wpAnyH_take (i := 2) (v := ?_) rfl (by kernel_rfl) (by kernel_rfl) (by kernel_rfl) (fun _ _ _ h => h) (Or.inl ⟨by rfl, ?_⟩) hHeld ?_
                      rotate_left
                      · intro w hSw; go_simp; try with_reducible rfl
                      try simp only [Act.put, List.setIfInBounds_toArray, List.set_cons_zero, List.set_cons_succ, List.getElem_toArray, List.getElem_cons_zero, List.getElem_cons_succ]
                      refine wpAnyH_take (i := 3) (v := ?_) rfl (by kernel_rfl) (by kernel_rfl) (by kernel_rfl) (fun _ _ _ h => h) (Or.inl ⟨by rfl, ?_⟩) hHeld ?_
                      rotate_left
                      · intro w hSw; go_simp; try with_reducible rfl
                      try simp only [Act.put, List.setIfInBounds_toArray, List.set_cons_zero, List.set_cons_succ, List.getElem_toArray, List.getElem_cons_zero, List.getElem_cons_succ]
                      refine wpAnyH_take (i := 4) (v := ?_) rfl (by kernel_rfl) (by kernel_rfl) (by kernel_rfl) (fun _ _ _ h => h) (Or.inl ⟨by rfl, ?_⟩) hHeld ?_
                      rotate_left
                      · intro w hSw; go_simp; try with_reducible rfl
                      try simp only [Act.put, List.setIfInBounds_toArray, List.set_cons_zero, List.set_cons_succ, List.getElem_toArray, List.getElem_cons_zero, List.getElem_cons_succ]
                      refine wpAnyH_take (i := 5) (v := ?_) rfl (by kernel_rfl) (by kernel_rfl) (by kernel_rfl) (fun _ _ _ h => h) (Or.inl ⟨by rfl, ?_⟩) hHeld ?_
                      rotate_left
                      · intro w hSw; go_simp; try with_reducible rfl
                      try simp only [Act.put, List.setIfInBounds_toArray, List.set_cons_zero, List.set_cons_succ, List.getElem_toArray, List.getElem_cons_zero, List.getElem_cons_succ]
                      refine wpAnyH_ready (rs := [6]) (by kernel_rfl) (by simp) ?_
                      refine AllReadyH.cons rfl (fun K hK => ?_) AllReadyH.nil
                      go_simp
                      go_at_call 22
                      refine Calls.mono hL1.out ?_
                      rintro e w4 ⟨rfl, P1, F1, hl⟩
                      have HR4 := Lib.hid (HR3.out.on1 hl)
                      have HC4 := Lib.hid (HST.out.cells HR4.out.fix HR4.out.chg HAa.out HKa.out.1 HCa.out (hB4.out _ _ _ _ hl).1)
                      go_wp2_with fail
                      refine hK.out _ _ HC4.out (fun hHeld => ?_)
                      clear hK K
                      try simp only [Act.put, List.setIfInBounds_toArray, List.set_cons_zero, List.set_cons_succ, List.getElem_toArray, List.getElem_cons_zero, List.getElem_cons_succ]
                      refine wpAnyH_take (i := 7) (v := ?_) rfl (by kernel_rfl) (by kernel_rfl) (by kernel_rfl) (fun _ _ _ h => h) (Or.inl ⟨by rfl, ?_⟩) hHeld ?_
                      rotate_left
                      · intro w hSw; go_simp; try with_reducible rfl
                      try simp only [Act.put, List.setIfInBounds_toArray, List.set_cons_zero, List.set_cons_succ, List.getElem_toArray, List.getElem_cons_zero, List.getElem_cons_succ]
                      refine wpAnyH_take (i := 8) (v := ?_) rfl (by kernel_rfl) (by kernel_rfl) (by kernel_rfl) (fun _ _ _ h => h) (Or.inl ⟨by rfl, ?_⟩) hHeld ?_
                      rotate_left
                      · intro w hSw; go_simp; try with_reducible rfl
                      try simp only [Act.put, List.setIfInBounds_toArray, List.set_cons_zero, List.set_cons_succ, List.getElem_toArray, List.getElem_cons_zero, List.getElem_cons_succ]
                      refine wpAnyH_take (i := 9) (v := ?_) rfl (by kernel_rfl) (by kernel_rfl) (by kernel_rfl) (fun _ _ _ h => h) (Or.inl ⟨by rfl, ?_⟩) hHeld ?_
                      rotate_left
                      · intro w hSw; go_simp; try with_reducible rfl
                      try simp only [Act.put, List.setIfInBounds_toArray, List.set_cons_zero, List.set_cons_succ, List.getElem_toArray, List.getElem_cons_zero, List.getElem_cons_succ]
                      refine wpAnyH_take (i := 10) (v := ?_) rfl (by kernel_rfl) (by kernel_rfl) (by kernel_rfl) (fun _ _ _ h => h) (Or.inl ⟨by rfl, ?_⟩) hHeld ?_
                      rotate_left
                      · intro w hSw; go_simp; try with_reducible rfl
                      try simp only [Act.put, List.setIfInBounds_toArray, List.set_cons_zero, List.set_cons_succ, List.getElem_toArray, List.getElem_cons_zero, List.getElem_cons_succ]
                      refine wpAnyH_take (i := 11) (v := ?_) rfl (by kernel_rfl) (by kernel_rfl) (by kernel_rfl) (fun _ _ _ h => h) (Or.inl ⟨by rfl, ?_⟩) hHeld ?_
                      rotate_left
                      · intro w hSw; go_simp; try with_reducible rfl
                      try simp only [Act.put, List.setIfInBounds_toArray, List.set_cons_zero, List.set_cons_succ, List.getElem_toArray, List.getElem_cons_zero, List.getElem_cons_succ]
                      refine wpAnyH_take (i := 12) (v := ?_) rfl (by kernel_rfl) (by kernel_rfl) (by kernel_rfl) (fun _ _ _ h => h) (Or.inl ⟨by rfl, ?_⟩) hHeld ?_
                      rotate_left
                      · intro w hSw; go_simp; try with_reducible rfl
                      try simp only [Act.put, List.setIfInBounds_toArray, List.set_cons_zero, List.set_cons_succ, List.getElem_toArray, List.getElem_cons_zero, List.getElem_cons_succ]
                      refine wpAnyH_take (i := 13) (v := ?_) rfl (by kernel_rfl) (by kernel_rfl) (by kernel_rfl) (fun _ _ _ h => h) (Or.inl ⟨by rfl, ?_⟩) hHeld ?_
                      rotate_left
                      · intro w hSw; go_simp; try with_reducible rfl
                      try simp only [Act.put, List.setIfInBounds_toArray, List.set_cons_zero, List.set_cons_succ, List.getElem_toArray, List.getElem_cons_zero, List.getElem_cons_succ]
                      refine wpAnyH_ready (rs := [14]) (by kernel_rfl) (by simp) ?_
                      refine AllReadyH.cons rfl (fun K hK => ?_) AllReadyH.nil
                      go_simp
                      go_at_call 22
                      refine Calls.mono (hL2.out w4 P1 F1 σ1 HR4.out) ?_
                      rintro e w5 ⟨rfl, P2, F2, hl2⟩
                      have HR5 := Lib.hid (HR4.out.on2 hl2)
                      have HB5 := Lib.hid (hB5.out _ _ _ _ _ _ _ _ hl hl2)
                      have HC5 := Lib.hid (HST.out.cells HR5.out.fix HR5.out.chg HAa.out HKa.out.1 HCa.out HB5.out.1)
                      go_wp2_with fail
                      refine hK.out _ _ HC5.out (fun hHeld => ?_)
                      clear hK K
                      try simp only [Act.put, List.setIfInBounds_toArray, List.set_cons_zero, List.set_cons_succ, List.getElem_toArray, List.getElem_cons_zero, List.getElem_cons_succ]
                      refine wpAnyH_take (i := 15) (v := ?_) rfl (by kernel_rfl) (by kernel_rfl) (by kernel_rfl) (fun _ _ _ h => h) (Or.inl ⟨by rfl, ?_⟩) hHeld ?_
                      rotate_left
                      · intro w hSw; go_simp; try with_reducible rfl
                      try simp only [Act.put, List.setIfInBounds_toArray, List.set_cons_zero, List.set_cons_succ, List.getElem_toArray, List.getElem_cons_zero, List.getElem_cons_succ]
                      refine wpAnyH_take (i := 16) (v := ?_) rfl (by kernel_rfl) (by kernel_rfl) (by kernel_rfl) (fun _ _ _ h => h) (Or.inl ⟨by rfl, ?_⟩) hHeld ?_
                      rotate_left
                      · intro w hSw; go_simp; try with_reducible rfl
                      try simp only [Act.put, List.setIfInBounds_toArray, List.set_cons_zero, List.set_cons_succ, List.getElem_toArray, List.getElem_cons_zero, List.getElem_cons_succ]
                      refine wpAnyH_take (i := 17) rfl (by kernel_rfl) (by kernel_rfl) (by kernel_rfl) (fun _ _ _ h => h) (Or.inr ⟨by rfl, rfl⟩) hHeld ?_
                      try simp only [Act.put, List.setIfInBounds_toArray, List.set_cons_zero, List.set_cons_succ, List.getElem_toArray, List.getElem_cons_zero, List.getElem_cons_succ]
                      refine wpAnyH_take (i := 18) rfl (by kernel_rfl) (by kernel_rfl) (by kernel_rfl) (fun _ _ _ h => h) (Or.inr ⟨by rfl, rfl⟩) hHeld ?_
                      try simp only [Act.put, List.setIfInBounds_toArray, List.set_cons_zero, List.set_cons_succ, List.getElem_toArray, List.getElem_cons_zero, List.getElem_cons_succ]
                      refine wpAnyH_take (i := 19) rfl (by kernel_rfl) (by kernel_rfl) (by kernel_rfl) (fun _ _ _ h => h) (Or.inr ⟨by rfl, rfl⟩) hHeld ?_
                      try simp only [Act.put, List.setIfInBounds_toArray, List.set_cons_zero, List.set_cons_succ, List.getElem_toArray, List.getElem_cons_zero, List.getElem_cons_succ]
                      refine wpAnyH_take (i := 20) rfl (by kernel_rfl) (by kernel_rfl) (by kernel_rfl) (fun _ _ _ h => h) (Or.inr ⟨by rfl, rfl⟩) hHeld ?_
                      try simp only [Act.put, List.setIfInBounds_toArray, List.set_cons_zero, List.set_cons_succ, List.getElem_toArray, List.getElem_cons_zero, List.getElem_cons_succ]
                      refine wpAnyH_take (i := 21) (v := ?_) rfl (by kernel_rfl) (by kernel_rfl) (by kernel_rfl) (fun _ _ _ h => h) (Or.inl ⟨by rfl, ?_⟩) hHeld ?_
                      rotate_left
                      · intro w hSw; go_simp; try with_reducible rfl
                      try simp only [Act.put, List.setIfInBounds_toArray, List.set_cons_zero, List.set_cons_succ, List.getElem_toArray, List.getElem_cons_zero, List.getElem_cons_succ]
                      refine wpAnyH_done (by kernel_rfl) ?_ _
                      clear hHeld
                      have Hτ0 : Hid (τ.length ≤ τ.length ∧ τ.take τ.length = τ) := Lib.hid ⟨Nat.le_refl _, List.take_length⟩
                      clear hl hl2 HC4 HCd HC5 HB5
                      obtain ⟨tu5, hu5⟩ := HR5.out.st.u
                      have qu5 := HR5.out.fix.qu
                      have q15 := HR5.out.fix.q1
                      have cu5 : w5.cell? ⟨X.ub, j, none⟩ = some (.bool true) := by rw [blk_cell hu5]; simp [hju]
                      have fu5 : w5.frozen? ⟨X.ub, j, none⟩ = false := blk_frozen hu5 j
                      have lu5 := blk_lt hu5
                      have n5 : X.bth ≠ X.ub := fun e => HR5.out.dis _ HR5.out.fix.k.2.2.2.1 (.inr (.inr (.inl e)))
                      clear hu5
                      go_wp2_with fail
                      refine (back_any _ P1 F1 X.m1 (σ1) σ.length Hσ0.out.1 (HR5.out.use j false).st.s1).mono ?_
                      rintro e w7 ⟨rfl, hst7, hc7, hs7⟩
                      have HR7 := Lib.hid ((HR5.out.use j false).back1 hst7 hc7)
                      clear hst7 hc7 hs7
                      have q27 := HR7.out.fix.q2
                      go_wp2_with fail
                      refine (back_any w7 P2 F2 X.m2 (τ) τ.length Hτ0.out.1 HR7.out.st.s2).mono ?_
                      rintro e w8 ⟨rfl, hst8, hc8, hs8⟩
                      have HR8 := Lib.hid (HR7.out.back2 hst8 hc8)
                      clear hst8 hc8 hs8
                      have hset : (us.set j true).set j false = us := by rw [List.set_set]; apply List.ext_getElem (by simp); intro q h1 h2; rw [List.getElem_set]; split; (subst_vars; exact Huj.out.symm); rfl
                      go_wp2_with fail
                      go_roundw
                      case rel => exact ⟨2, (n2 + 1), P1, F1, P2, F2, by omega, by go_num, by omega, Lib.hid (by have h8 := HR8.out; rw [hset, Hσ0.out.2, Hτ0.out.2] at h8; exact h8), Lib.hid (HG2.out _ _ (by rw [tryL_cons, if_neg hov, Hr1.out, Hr2.out]) rfl)⟩
                      case measure => simp [intOf]
                    | some τ1 =>
                      rw [hr2] at hL2
                      have Hr2 := Lib.hid hr2
                      have hL2 : Hid (∀ (w4 : World) (P1 F1 : Nat → Prop) (σ' : Sg), Run X w M1 M2 w4 P1 F1 N2 E2 σ' τ (us.set j true) (n2 + 1) → Calls Tryd.prog 22 #[.pointer (some ⟨X.m2, 0, none⟩), .agg #[.bool y.neg, .int .i64 y.r.hd, .slice B2 y.r.args.length d2, .int .i64 y.l.hd, .slice B1 y.l.args.length d1], .agg #[.bool x.neg, .int .i64 x.l.hd, .slice A1 x.l.args.length c1, .int .i64 x.r.hd, .slice A2 x.r.args.length c2], .bool false] w4 (fun e w' => e = .returned (.bool true) ∧ ∃ M' D', Left w4 N2 E2 X.m2 τ1 w' M' D')) := Lib.hid (fun w4 P1 F1 σ' h => Calls.mono (hL2.out w4 P1 F1 σ' h) (fun _ _ h => h))
                      obtain ⟨ext2, hx2, hx2l⟩ := litF_pre hr2
                      have Hτ0 : Hid (τ.length ≤ τ1.length ∧ τ1.take τ.length = τ) := Lib.hid (by subst hx2; exact ⟨by simp, List.take_left⟩)
                      have hτ1 : τ1.length ≤ (i + 1) * 2000000 := by rw [hx2, List.length_append]; omega
                      clear hr2 hx2 hx2l
                      have hm : (frm X.b xs σ1 τ1 (us.set j true) (n2 + 1)).2 ≤ 10005 := by have := frm_le X.b xs σ1 τ1 (us.set j true) (n2 + 1) (by omega); omega
                      cases hq : frm X.b xs σ1 τ1 (us.set j true) (n2 + 1) with
                      | mk bv m =>
                        rw [hq] at hm
                        have HM : Hid (m ≤ 10005) := Lib.hid hm
                        have Hq := Lib.hid hq
                        clear hm
                        cases bv with
                        | false =>
                          have hF3 : Hid (∀ (w5 : World) (P1 F1 P2 F2 : Nat → Prop), Run X w M1 M2 w5 P1 F1 P2 F2 σ1 τ1 (us.set j true) (n2 + 1) → Calls Tryd.prog 19 #[.int .i64 ((i : Int) + 1), .pointer (some ⟨X.ba, 0, none⟩), .pointer (some ⟨X.bb, 0, none⟩), .pointer (some ⟨X.bu, 0, none⟩), .pointer (some ⟨X.bt, 0, none⟩), .pointer (some ⟨X.bth, 0, none⟩), .pointer (some ⟨X.bba, 0, none⟩), .pointer (some ⟨X.bf, 0, none⟩)] w5 (fun e w' => e = .returned (.bool false) ∧ Chg (Wr P1 P2 X.ub X.bt) w5 w' ∧ ∃ Q1 G1 Q2 G2, Run X w5 P1 P2 w' Q1 G1 Q2 G2 σ1 τ1 (us.set j true) m)) := Lib.hid (fun w5 P1 F1 P2 F2 h => Calls.mono (hFr.out w5 P1 F1 P2 F2 σ1 τ1 hσ1 hτ1 h) (fun e w' hp => by rw [hq] at hp; exact ⟨hp.1, hp.2.1, hp.2.2 rfl⟩))
                          clear hq hFr
                          refine wp_region_held_drew (S := (fun w' => w'.cell? ⟨X.bth, 0, none⟩ = some (.pointer (some ⟨X.m1, 0, none⟩)) ∧ w'.cell? ⟨X.ba, 0, none⟩ = some (.slice (some ⟨ga, oa, none⟩) X.a.length X.ca) ∧ w'.cell? ⟨ga, oa + i * 5, none⟩ = some (.bool x.neg) ∧ w'.cell? ⟨ga, oa + i * 5 + 1, none⟩ = some (.int .i64 x.l.hd) ∧ w'.cell? ⟨ga, oa + i * 5 + 2, none⟩ = some (.slice A1 x.l.args.length c1) ∧ w'.cell? ⟨ga, oa + i * 5 + 3, none⟩ = some (.int .i64 x.r.hd) ∧ w'.cell? ⟨ga, oa + i * 5 + 4, none⟩ = some (.slice A2 x.r.args.length c2) ∧ w'.cell? ⟨wr.heap.size, 0, none⟩ = some (.bool y.neg) ∧ w'.cell? ⟨wr.heap.size, 1, none⟩ = some (.int .i64 y.r.hd) ∧ w'.cell? ⟨wr.heap.size, 2, none⟩ = some (.slice B2 y.r.args.length d2) ∧ w'.cell? ⟨wr.heap.size, 3, none⟩ = some (.int .i64 y.l.hd) ∧ w'.cell? ⟨wr.heap.size, 4, none⟩ = some (.slice B1 y.l.args.length d1) ∧ w'.cell? ⟨X.bba, 0, none⟩ = some (.pointer (some ⟨X.m2, 0, none⟩)) ∧ w'.cell? ⟨X.bf, 0, none⟩ = some (.func (.func 19) #[] #[.pointer (some ⟨X.ba, 0, none⟩), .pointer (some ⟨X.bb, 0, none⟩), .pointer (some ⟨X.bu, 0, none⟩), .pointer (some ⟨X.bt, 0, none⟩), .pointer (some ⟨X.bth, 0, none⟩), .pointer (some ⟨X.bba, 0, none⟩), .pointer (some ⟨X.bf, 0, none⟩)]))) (by kernel_rfl) HCd.out (fun hHeld => ?_)
                          refine wpAnyH_take (i := 0) (v := ?_) rfl (by kernel_rfl) (by kernel_rfl) (by kernel_rfl) (fun _ _ _ h => h) (Or.inl ⟨by rfl, ?_⟩) hHeld ?_
                          rotate_left
                          · intro w hSw; go_simp; try with_reducible rfl
                          try simp only [Act.put, List.setIfInBounds_toArray, List.set_cons_zero, List.set_cons_succ, List.getElem_toArray, List.getElem_cons_zero, List.getElem_cons_succ]
                          refine wpAnyH_take (i := 1) (v := ?_) rfl (by kernel_rfl) (by kernel_rfl) (by kernel_rfl) (fun _ _ _ h => h) (Or.inl ⟨by rfl, ?_⟩) hHeld ?_
                          rotate_left
                          · intro w hSw; go_simp; try with_reducible rfl
                          try simp only [Act.put, List.setIfInBounds_toArray, List.set_cons_zero, List.set_cons_succ, List.getElem_toArray, List.getElem_cons_zero, List.getElem_cons_succ]
                          refine wpAnyH_take (i := 2) (v := ?_) rfl (by kernel_rfl) (by kernel_rfl) (by kernel_rfl) (fun _ _ _ h => h) (Or.inl ⟨by rfl, ?_⟩) hHeld ?_
                          rotate_left
                          · intro w hSw; go_simp; try with_reducible rfl
                          try simp only [Act.put, List.setIfInBounds_toArray, List.set_cons_zero, List.set_cons_succ, List.getElem_toArray, List.getElem_cons_zero, List.getElem_cons_succ]
                          refine wpAnyH_take (i := 3) (v := ?_) rfl (by kernel_rfl) (by kernel_rfl) (by kernel_rfl) (fun _ _ _ h => h) (Or.inl ⟨by rfl, ?_⟩) hHeld ?_
                          rotate_left
                          · intro w hSw; go_simp; try with_reducible rfl
                          try simp only [Act.put, List.setIfInBounds_toArray, List.set_cons_zero, List.set_cons_succ, List.getElem_toArray, List.getElem_cons_zero, List.getElem_cons_succ]
                          refine wpAnyH_take (i := 4) (v := ?_) rfl (by kernel_rfl) (by kernel_rfl) (by kernel_rfl) (fun _ _ _ h => h) (Or.inl ⟨by rfl, ?_⟩) hHeld ?_
                          rotate_left
                          · intro w hSw; go_simp; try with_reducible rfl
                          try simp only [Act.put, List.setIfInBounds_toArray, List.set_cons_zero, List.set_cons_succ, List.getElem_toArray, List.getElem_cons_zero, List.getElem_cons_succ]
                          refine wpAnyH_take (i := 5) (v := ?_) rfl (by kernel_rfl) (by kernel_rfl) (by kernel_rfl) (fun _ _ _ h => h) (Or.inl ⟨by rfl, ?_⟩) hHeld ?_
                          rotate_left
                          · intro w hSw; go_simp; try with_reducible rfl
                          try simp only [Act.put, List.setIfInBounds_toArray, List.set_cons_zero, List.set_cons_succ, List.getElem_toArray, List.getElem_cons_zero, List.getElem_cons_succ]
                          refine wpAnyH_ready (rs := [6]) (by kernel_rfl) (by simp) ?_
                          refine AllReadyH.cons rfl (fun K hK => ?_) AllReadyH.nil
                          go_simp
                          go_at_call 22
                          refine Calls.mono hL1.out ?_
                          rintro e w4 ⟨rfl, P1, F1, hl⟩
                          have HR4 := Lib.hid (HR3.out.on1 hl)
                          have HC4 := Lib.hid (HST.out.cells HR4.out.fix HR4.out.chg HAa.out HKa.out.1 HCa.out (hB4.out _ _ _ _ hl).1)
                          go_wp2_with fail
                          refine hK.out _ _ HC4.out (fun hHeld => ?_)
                          clear hK K
                          try simp only [Act.put, List.setIfInBounds_toArray, List.set_cons_zero, List.set_cons_succ, List.getElem_toArray, List.getElem_cons_zero, List.getElem_cons_succ]
                          refine wpAnyH_take (i := 7) (v := ?_) rfl (by kernel_rfl) (by kernel_rfl) (by kernel_rfl) (fun _ _ _ h => h) (Or.inl ⟨by rfl, ?_⟩) hHeld ?_
                          rotate_left
                          · intro w hSw; go_simp; try with_reducible rfl
                          try simp only [Act.put, List.setIfInBounds_toArray, List.set_cons_zero, List.set_cons_succ, List.getElem_toArray, List.getElem_cons_zero, List.getElem_cons_succ]
                          refine wpAnyH_take (i := 8) (v := ?_) rfl (by kernel_rfl) (by kernel_rfl) (by kernel_rfl) (fun _ _ _ h => h) (Or.inl ⟨by rfl, ?_⟩) hHeld ?_
                          rotate_left
                          · intro w hSw; go_simp; try with_reducible rfl
                          try simp only [Act.put, List.setIfInBounds_toArray, List.set_cons_zero, List.set_cons_succ, List.getElem_toArray, List.getElem_cons_zero, List.getElem_cons_succ]
                          refine wpAnyH_take (i := 9) (v := ?_) rfl (by kernel_rfl) (by kernel_rfl) (by kernel_rfl) (fun _ _ _ h => h) (Or.inl ⟨by rfl, ?_⟩) hHeld ?_
                          rotate_left
                          · intro w hSw; go_simp; try with_reducible rfl
                          try simp only [Act.put, List.setIfInBounds_toArray, List.set_cons_zero, List.set_cons_succ, List.getElem_toArray, List.getElem_cons_zero, List.getElem_cons_succ]
                          refine wpAnyH_take (i := 10) (v := ?_) rfl (by kernel_rfl) (by kernel_rfl) (by kernel_rfl) (fun _ _ _ h => h) (Or.inl ⟨by rfl, ?_⟩) hHeld ?_
                          rotate_left
                          · intro w hSw; go_simp; try with_reducible rfl
                          try simp only [Act.put, List.setIfInBounds_toArray, List.set_cons_zero, List.set_cons_succ, List.getElem_toArray, List.getElem_cons_zero, List.getElem_cons_succ]
                          refine wpAnyH_take (i := 11) (v := ?_) rfl (by kernel_rfl) (by kernel_rfl) (by kernel_rfl) (fun _ _ _ h => h) (Or.inl ⟨by rfl, ?_⟩) hHeld ?_
                          rotate_left
                          · intro w hSw; go_simp; try with_reducible rfl
                          try simp only [Act.put, List.setIfInBounds_toArray, List.set_cons_zero, List.set_cons_succ, List.getElem_toArray, List.getElem_cons_zero, List.getElem_cons_succ]
                          refine wpAnyH_take (i := 12) (v := ?_) rfl (by kernel_rfl) (by kernel_rfl) (by kernel_rfl) (fun _ _ _ h => h) (Or.inl ⟨by rfl, ?_⟩) hHeld ?_
                          rotate_left
                          · intro w hSw; go_simp; try with_reducible rfl
                          try simp only [Act.put, List.setIfInBounds_toArray, List.set_cons_zero, List.set_cons_succ, List.getElem_toArray, List.getElem_cons_zero, List.getElem_cons_succ]
                          refine wpAnyH_take (i := 13) (v := ?_) rfl (by kernel_rfl) (by kernel_rfl) (by kernel_rfl) (fun _ _ _ h => h) (Or.inl ⟨by rfl, ?_⟩) hHeld ?_
                          rotate_left
                          · intro w hSw; go_simp; try with_reducible rfl
                          try simp only [Act.put, List.setIfInBounds_toArray, List.set_cons_zero, List.set_cons_succ, List.getElem_toArray, List.getElem_cons_zero, List.getElem_cons_succ]
                          refine wpAnyH_ready (rs := [14]) (by kernel_rfl) (by simp) ?_
                          refine AllReadyH.cons rfl (fun K hK => ?_) AllReadyH.nil
                          go_simp
                          go_at_call 22
                          refine Calls.mono (hL2.out w4 P1 F1 σ1 HR4.out) ?_
                          rintro e w5 ⟨rfl, P2, F2, hl2⟩
                          have HR5 := Lib.hid (HR4.out.on2 hl2)
                          have HB5 := Lib.hid (hB5.out _ _ _ _ _ _ _ _ hl hl2)
                          have HC5 := Lib.hid (HST.out.cells HR5.out.fix HR5.out.chg HAa.out HKa.out.1 HCa.out HB5.out.1)
                          go_wp2_with fail
                          refine hK.out _ _ HC5.out (fun hHeld => ?_)
                          clear hK K
                          try simp only [Act.put, List.setIfInBounds_toArray, List.set_cons_zero, List.set_cons_succ, List.getElem_toArray, List.getElem_cons_zero, List.getElem_cons_succ]
                          refine wpAnyH_take (i := 15) (v := ?_) rfl (by kernel_rfl) (by kernel_rfl) (by kernel_rfl) (fun _ _ _ h => h) (Or.inl ⟨by rfl, ?_⟩) hHeld ?_
                          rotate_left
                          · intro w hSw; go_simp; try with_reducible rfl
                          try simp only [Act.put, List.setIfInBounds_toArray, List.set_cons_zero, List.set_cons_succ, List.getElem_toArray, List.getElem_cons_zero, List.getElem_cons_succ]
                          refine wpAnyH_take (i := 16) (v := ?_) rfl (by kernel_rfl) (by kernel_rfl) (by kernel_rfl) (fun _ _ _ h => h) (Or.inl ⟨by rfl, ?_⟩) hHeld ?_
                          rotate_left
                          · intro w hSw; go_simp; try with_reducible rfl
                          try simp only [Act.put, List.setIfInBounds_toArray, List.set_cons_zero, List.set_cons_succ, List.getElem_toArray, List.getElem_cons_zero, List.getElem_cons_succ]
                          refine wpAnyH_take (i := 17) (v := ?_) rfl (by kernel_rfl) (by kernel_rfl) (by kernel_rfl) (fun _ _ _ h => h) (Or.inl ⟨by rfl, ?_⟩) hHeld ?_
                          rotate_left
                          · intro w hSw; go_simp; try with_reducible rfl
                          try simp only [Act.put, List.setIfInBounds_toArray, List.set_cons_zero, List.set_cons_succ, List.getElem_toArray, List.getElem_cons_zero, List.getElem_cons_succ]
                          refine wpAnyH_take (i := 18) (v := ?_) rfl (by kernel_rfl) (by kernel_rfl) (by kernel_rfl) (fun _ _ _ h => h) (Or.inl ⟨by rfl, ?_⟩) hHeld ?_
                          rotate_left
                          · intro w hSw; go_simp; try with_reducible rfl
                          try simp only [Act.put, List.setIfInBounds_toArray, List.set_cons_zero, List.set_cons_succ, List.getElem_toArray, List.getElem_cons_zero, List.getElem_cons_succ]
                          refine wpAnyH_take (i := 19) (v := ?_) rfl (by kernel_rfl) (by kernel_rfl) (by kernel_rfl) (fun _ _ _ h => h) (Or.inl ⟨by rfl, ?_⟩) hHeld ?_
                          rotate_left
                          · intro w hSw; go_simp; try with_reducible rfl
                          try simp only [Act.put, List.setIfInBounds_toArray, List.set_cons_zero, List.set_cons_succ, List.getElem_toArray, List.getElem_cons_zero, List.getElem_cons_succ]
                          refine wpAnyH_ready (rs := [20]) (by kernel_rfl) (by simp) ?_
                          refine AllReadyH.cons rfl (fun K hK => ?_) AllReadyH.nil
                          go_simp
                          go_at_call 19
                          refine Calls.mono (hF3.out w5 P1 F1 P2 F2 HR5.out) ?_
                          rintro e w6 ⟨rfl, hc6, Q1, G1, Q2, G2, hr6⟩
                          have HR6 := Lib.hid (HR5.out.trans hr6)
                          have HC6 := Lib.hid (HST.out.cells HR6.out.fix HR6.out.chg HAa.out HKa.out.1 HCa.out ((hc6.block _ (blk_lt HB5.out.1) HB5.out.2).trans HB5.out.1))
                          go_wp2_with fail
                          refine hK.out _ _ HC6.out (fun hHeld => ?_)
                          clear hK K
                          try simp only [Act.put, List.setIfInBounds_toArray, List.set_cons_zero, List.set_cons_succ, List.getElem_toArray, List.getElem_cons_zero, List.getElem_cons_succ]
                          refine wpAnyH_take (i := 21) (v := ?_) rfl (by kernel_rfl) (by kernel_rfl) (by kernel_rfl) (fun _ _ _ h => h) (Or.inl ⟨by rfl, ?_⟩) hHeld ?_
                          rotate_left
                          · intro w hSw; go_simp; try with_reducible rfl
                          try simp only [Act.put, List.setIfInBounds_toArray, List.set_cons_zero, List.set_cons_succ, List.getElem_toArray, List.getElem_cons_zero, List.getElem_cons_succ]
                          refine wpAnyH_done (by kernel_rfl) ?_ _
                          clear hHeld hl hl2 hc6 HC4 HCd HC5 HB5 HC6
                          clear hr6
                          obtain ⟨tu5, hu5⟩ := HR6.out.st.u
                          have qu5 := HR6.out.fix.qu
                          have q15 := HR6.out.fix.q1
                          have cu5 : w6.cell? ⟨X.ub, j, none⟩ = some (.bool true) := by rw [blk_cell hu5]; simp [hju]
                          have fu5 : w6.frozen? ⟨X.ub, j, none⟩ = false := blk_frozen hu5 j
                          have lu5 := blk_lt hu5
                          have n5 : X.bth ≠ X.ub := fun e => HR6.out.dis _ HR6.out.fix.k.2.2.2.1 (.inr (.inr (.inl e)))
                          clear hu5
                          go_wp2_with fail
                          refine (back_any _ Q1 G1 X.m1 (σ1) σ.length Hσ0.out.1 (HR6.out.use j false).st.s1).mono ?_
                          rintro e w7 ⟨rfl, hst7, hc7, hs7⟩
                          have HR7 := Lib.hid ((HR6.out.use j false).back1 hst7 hc7)
                          clear hst7 hc7 hs7
                          have q27 := HR7.out.fix.q2
                          go_wp2_with fail
                          refine (back_any w7 Q2 G2 X.m2 (τ1) τ.length Hτ0.out.1 HR7.out.st.s2).mono ?_
                          rintro e w8 ⟨rfl, hst8, hc8, hs8⟩
                          have HR8 := Lib.hid (HR7.out.back2 hst8 hc8)
                          clear hst8 hc8 hs8
                          have hset : (us.set j true).set j false = us := by rw [List.set_set]; apply List.ext_getElem (by simp); intro q h1 h2; rw [List.getElem_set]; split; (subst_vars; exact Huj.out.symm); rfl
                          go_wp2_with fail
                          go_roundw
                          case rel => exact ⟨2, m, Q1, G1, Q2, G2, by omega, by go_num, HM.out, Lib.hid (by have h8 := HR8.out; rw [hset, Hσ0.out.2, Hτ0.out.2] at h8; exact h8), Lib.hid (HG2.out _ _ (by rw [tryL_cons, if_neg hov, Hr1.out, Hr2.out]; simp [Hq.out]) rfl)⟩
                          case measure => simp [intOf]
                        | true =>
                          have hF3 : Hid (∀ (w5 : World) (P1 F1 P2 F2 : Nat → Prop), Run X w M1 M2 w5 P1 F1 P2 F2 σ1 τ1 (us.set j true) (n2 + 1) → Calls Tryd.prog 19 #[.int .i64 ((i : Int) + 1), .pointer (some ⟨X.ba, 0, none⟩), .pointer (some ⟨X.bb, 0, none⟩), .pointer (some ⟨X.bu, 0, none⟩), .pointer (some ⟨X.bt, 0, none⟩), .pointer (some ⟨X.bth, 0, none⟩), .pointer (some ⟨X.bba, 0, none⟩), .pointer (some ⟨X.bf, 0, none⟩)] w5 (fun e w' => e = .returned (.bool true) ∧ Chg (Wr P1 P2 X.ub X.bt) w5 w')) := Lib.hid (fun w5 P1 F1 P2 F2 h => Calls.mono (hFr.out w5 P1 F1 P2 F2 σ1 τ1 hσ1 hτ1 h) (fun e w' hp => by rw [hq] at hp; exact ⟨hp.1, hp.2.1⟩))
                          clear hq hFr
                          refine wp_region_held_drew (S := (fun w' => w'.cell? ⟨X.bth, 0, none⟩ = some (.pointer (some ⟨X.m1, 0, none⟩)) ∧ w'.cell? ⟨X.ba, 0, none⟩ = some (.slice (some ⟨ga, oa, none⟩) X.a.length X.ca) ∧ w'.cell? ⟨ga, oa + i * 5, none⟩ = some (.bool x.neg) ∧ w'.cell? ⟨ga, oa + i * 5 + 1, none⟩ = some (.int .i64 x.l.hd) ∧ w'.cell? ⟨ga, oa + i * 5 + 2, none⟩ = some (.slice A1 x.l.args.length c1) ∧ w'.cell? ⟨ga, oa + i * 5 + 3, none⟩ = some (.int .i64 x.r.hd) ∧ w'.cell? ⟨ga, oa + i * 5 + 4, none⟩ = some (.slice A2 x.r.args.length c2) ∧ w'.cell? ⟨wr.heap.size, 0, none⟩ = some (.bool y.neg) ∧ w'.cell? ⟨wr.heap.size, 1, none⟩ = some (.int .i64 y.r.hd) ∧ w'.cell? ⟨wr.heap.size, 2, none⟩ = some (.slice B2 y.r.args.length d2) ∧ w'.cell? ⟨wr.heap.size, 3, none⟩ = some (.int .i64 y.l.hd) ∧ w'.cell? ⟨wr.heap.size, 4, none⟩ = some (.slice B1 y.l.args.length d1) ∧ w'.cell? ⟨X.bba, 0, none⟩ = some (.pointer (some ⟨X.m2, 0, none⟩)) ∧ w'.cell? ⟨X.bf, 0, none⟩ = some (.func (.func 19) #[] #[.pointer (some ⟨X.ba, 0, none⟩), .pointer (some ⟨X.bb, 0, none⟩), .pointer (some ⟨X.bu, 0, none⟩), .pointer (some ⟨X.bt, 0, none⟩), .pointer (some ⟨X.bth, 0, none⟩), .pointer (some ⟨X.bba, 0, none⟩), .pointer (some ⟨X.bf, 0, none⟩)]))) (by kernel_rfl) HCd.out (fun hHeld => ?_)
                          refine wpAnyH_take (i := 0) (v := ?_) rfl (by kernel_rfl) (by kernel_rfl) (by kernel_rfl) (fun _ _ _ h => h) (Or.inl ⟨by rfl, ?_⟩) hHeld ?_
                          rotate_left
                          · intro w hSw; go_simp; try with_reducible rfl
                          try simp only [Act.put, List.setIfInBounds_toArray, List.set_cons_zero, List.set_cons_succ, List.getElem_toArray, List.getElem_cons_zero, List.getElem_cons_succ]
                          refine wpAnyH_take (i := 1) (v := ?_) rfl (by kernel_rfl) (by kernel_rfl) (by kernel_rfl) (fun _ _ _ h => h) (Or.inl ⟨by rfl, ?_⟩) hHeld ?_
                          rotate_left
                          · intro w hSw; go_simp; try with_reducible rfl
                          try simp only [Act.put, List.setIfInBounds_toArray, List.set_cons_zero, List.set_cons_succ, List.getElem_toArray, List.getElem_cons_zero, List.getElem_cons_succ]
                          refine wpAnyH_take (i := 2) (v := ?_) rfl (by kernel_rfl) (by kernel_rfl) (by kernel_rfl) (fun _ _ _ h => h) (Or.inl ⟨by rfl, ?_⟩) hHeld ?_
                          rotate_left
                          · intro w hSw; go_simp; try with_reducible rfl
                          try simp only [Act.put, List.setIfInBounds_toArray, List.set_cons_zero, List.set_cons_succ, List.getElem_toArray, List.getElem_cons_zero, List.getElem_cons_succ]
                          refine wpAnyH_take (i := 3) (v := ?_) rfl (by kernel_rfl) (by kernel_rfl) (by kernel_rfl) (fun _ _ _ h => h) (Or.inl ⟨by rfl, ?_⟩) hHeld ?_
                          rotate_left
                          · intro w hSw; go_simp; try with_reducible rfl
                          try simp only [Act.put, List.setIfInBounds_toArray, List.set_cons_zero, List.set_cons_succ, List.getElem_toArray, List.getElem_cons_zero, List.getElem_cons_succ]
                          refine wpAnyH_take (i := 4) (v := ?_) rfl (by kernel_rfl) (by kernel_rfl) (by kernel_rfl) (fun _ _ _ h => h) (Or.inl ⟨by rfl, ?_⟩) hHeld ?_
                          rotate_left
                          · intro w hSw; go_simp; try with_reducible rfl
                          try simp only [Act.put, List.setIfInBounds_toArray, List.set_cons_zero, List.set_cons_succ, List.getElem_toArray, List.getElem_cons_zero, List.getElem_cons_succ]
                          refine wpAnyH_take (i := 5) (v := ?_) rfl (by kernel_rfl) (by kernel_rfl) (by kernel_rfl) (fun _ _ _ h => h) (Or.inl ⟨by rfl, ?_⟩) hHeld ?_
                          rotate_left
                          · intro w hSw; go_simp; try with_reducible rfl
                          try simp only [Act.put, List.setIfInBounds_toArray, List.set_cons_zero, List.set_cons_succ, List.getElem_toArray, List.getElem_cons_zero, List.getElem_cons_succ]
                          refine wpAnyH_ready (rs := [6]) (by kernel_rfl) (by simp) ?_
                          refine AllReadyH.cons rfl (fun K hK => ?_) AllReadyH.nil
                          go_simp
                          go_at_call 22
                          refine Calls.mono hL1.out ?_
                          rintro e w4 ⟨rfl, P1, F1, hl⟩
                          have HR4 := Lib.hid (HR3.out.on1 hl)
                          have HC4 := Lib.hid (HST.out.cells HR4.out.fix HR4.out.chg HAa.out HKa.out.1 HCa.out (hB4.out _ _ _ _ hl).1)
                          go_wp2_with fail
                          refine hK.out _ _ HC4.out (fun hHeld => ?_)
                          clear hK K
                          try simp only [Act.put, List.setIfInBounds_toArray, List.set_cons_zero, List.set_cons_succ, List.getElem_toArray, List.getElem_cons_zero, List.getElem_cons_succ]
                          refine wpAnyH_take (i := 7) (v := ?_) rfl (by kernel_rfl) (by kernel_rfl) (by kernel_rfl) (fun _ _ _ h => h) (Or.inl ⟨by rfl, ?_⟩) hHeld ?_
                          rotate_left
                          · intro w hSw; go_simp; try with_reducible rfl
                          try simp only [Act.put, List.setIfInBounds_toArray, List.set_cons_zero, List.set_cons_succ, List.getElem_toArray, List.getElem_cons_zero, List.getElem_cons_succ]
                          refine wpAnyH_take (i := 8) (v := ?_) rfl (by kernel_rfl) (by kernel_rfl) (by kernel_rfl) (fun _ _ _ h => h) (Or.inl ⟨by rfl, ?_⟩) hHeld ?_
                          rotate_left
                          · intro w hSw; go_simp; try with_reducible rfl
                          try simp only [Act.put, List.setIfInBounds_toArray, List.set_cons_zero, List.set_cons_succ, List.getElem_toArray, List.getElem_cons_zero, List.getElem_cons_succ]
                          refine wpAnyH_take (i := 9) (v := ?_) rfl (by kernel_rfl) (by kernel_rfl) (by kernel_rfl) (fun _ _ _ h => h) (Or.inl ⟨by rfl, ?_⟩) hHeld ?_
                          rotate_left
                          · intro w hSw; go_simp; try with_reducible rfl
                          try simp only [Act.put, List.setIfInBounds_toArray, List.set_cons_zero, List.set_cons_succ, List.getElem_toArray, List.getElem_cons_zero, List.getElem_cons_succ]
                          refine wpAnyH_take (i := 10) (v := ?_) rfl (by kernel_rfl) (by kernel_rfl) (by kernel_rfl) (fun _ _ _ h => h) (Or.inl ⟨by rfl, ?_⟩) hHeld ?_
                          rotate_left
                          · intro w hSw; go_simp; try with_reducible rfl
                          try simp only [Act.put, List.setIfInBounds_toArray, List.set_cons_zero, List.set_cons_succ, List.getElem_toArray, List.getElem_cons_zero, List.getElem_cons_succ]
                          refine wpAnyH_take (i := 11) (v := ?_) rfl (by kernel_rfl) (by kernel_rfl) (by kernel_rfl) (fun _ _ _ h => h) (Or.inl ⟨by rfl, ?_⟩) hHeld ?_
                          rotate_left
                          · intro w hSw; go_simp; try with_reducible rfl
                          try simp only [Act.put, List.setIfInBounds_toArray, List.set_cons_zero, List.set_cons_succ, List.getElem_toArray, List.getElem_cons_zero, List.getElem_cons_succ]
                          refine wpAnyH_take (i := 12) (v := ?_) rfl (by kernel_rfl) (by kernel_rfl) (by kernel_rfl) (fun _ _ _ h => h) (Or.inl ⟨by rfl, ?_⟩) hHeld ?_
                          rotate_left
                          · intro w hSw; go_simp; try with_reducible rfl
                          try simp only [Act.put, List.setIfInBounds_toArray, List.set_cons_zero, List.set_cons_succ, List.getElem_toArray, List.getElem_cons_zero, List.getElem_cons_succ]
                          refine wpAnyH_take (i := 13) (v := ?_) rfl (by kernel_rfl) (by kernel_rfl) (by kernel_rfl) (fun _ _ _ h => h) (Or.inl ⟨by rfl, ?_⟩) hHeld ?_
                          rotate_left
                          · intro w hSw; go_simp; try with_reducible rfl
                          try simp only [Act.put, List.setIfInBounds_toArray, List.set_cons_zero, List.set_cons_succ, List.getElem_toArray, List.getElem_cons_zero, List.getElem_cons_succ]
                          refine wpAnyH_ready (rs := [14]) (by kernel_rfl) (by simp) ?_
                          refine AllReadyH.cons rfl (fun K hK => ?_) AllReadyH.nil
                          go_simp
                          go_at_call 22
                          refine Calls.mono (hL2.out w4 P1 F1 σ1 HR4.out) ?_
                          rintro e w5 ⟨rfl, P2, F2, hl2⟩
                          have HR5 := Lib.hid (HR4.out.on2 hl2)
                          have HB5 := Lib.hid (hB5.out _ _ _ _ _ _ _ _ hl hl2)
                          have HC5 := Lib.hid (HST.out.cells HR5.out.fix HR5.out.chg HAa.out HKa.out.1 HCa.out HB5.out.1)
                          go_wp2_with fail
                          refine hK.out _ _ HC5.out (fun hHeld => ?_)
                          clear hK K
                          try simp only [Act.put, List.setIfInBounds_toArray, List.set_cons_zero, List.set_cons_succ, List.getElem_toArray, List.getElem_cons_zero, List.getElem_cons_succ]
                          refine wpAnyH_take (i := 15) (v := ?_) rfl (by kernel_rfl) (by kernel_rfl) (by kernel_rfl) (fun _ _ _ h => h) (Or.inl ⟨by rfl, ?_⟩) hHeld ?_
                          rotate_left
                          · intro w hSw; go_simp; try with_reducible rfl
                          try simp only [Act.put, List.setIfInBounds_toArray, List.set_cons_zero, List.set_cons_succ, List.getElem_toArray, List.getElem_cons_zero, List.getElem_cons_succ]
                          refine wpAnyH_take (i := 16) (v := ?_) rfl (by kernel_rfl) (by kernel_rfl) (by kernel_rfl) (fun _ _ _ h => h) (Or.inl ⟨by rfl, ?_⟩) hHeld ?_
                          rotate_left
                          · intro w hSw; go_simp; try with_reducible rfl
                          try simp only [Act.put, List.setIfInBounds_toArray, List.set_cons_zero, List.set_cons_succ, List.getElem_toArray, List.getElem_cons_zero, List.getElem_cons_succ]
                          refine wpAnyH_take (i := 17) (v := ?_) rfl (by kernel_rfl) (by kernel_rfl) (by kernel_rfl) (fun _ _ _ h => h) (Or.inl ⟨by rfl, ?_⟩) hHeld ?_
                          rotate_left
                          · intro w hSw; go_simp; try with_reducible rfl
                          try simp only [Act.put, List.setIfInBounds_toArray, List.set_cons_zero, List.set_cons_succ, List.getElem_toArray, List.getElem_cons_zero, List.getElem_cons_succ]
                          refine wpAnyH_take (i := 18) (v := ?_) rfl (by kernel_rfl) (by kernel_rfl) (by kernel_rfl) (fun _ _ _ h => h) (Or.inl ⟨by rfl, ?_⟩) hHeld ?_
                          rotate_left
                          · intro w hSw; go_simp; try with_reducible rfl
                          try simp only [Act.put, List.setIfInBounds_toArray, List.set_cons_zero, List.set_cons_succ, List.getElem_toArray, List.getElem_cons_zero, List.getElem_cons_succ]
                          refine wpAnyH_take (i := 19) (v := ?_) rfl (by kernel_rfl) (by kernel_rfl) (by kernel_rfl) (fun _ _ _ h => h) (Or.inl ⟨by rfl, ?_⟩) hHeld ?_
                          rotate_left
                          · intro w hSw; go_simp; try with_reducible rfl
                          try simp only [Act.put, List.setIfInBounds_toArray, List.set_cons_zero, List.set_cons_succ, List.getElem_toArray, List.getElem_cons_zero, List.getElem_cons_succ]
                          refine wpAnyH_ready (rs := [20]) (by kernel_rfl) (by simp) ?_
                          refine AllReadyH.cons rfl (fun K hK => ?_) AllReadyH.nil
                          go_simp
                          go_at_call 19
                          refine Calls.mono (hF3.out w5 P1 F1 P2 F2 HR5.out) ?_
                          rintro e w6 ⟨rfl, hc6⟩
                          have HR6 := Lib.hid (HR5.out.go hc6)
                          have HC6 := Lib.hid (HST.out.cells HR6.out.1 HR6.out.2 HAa.out HKa.out.1 HCa.out ((hc6.block _ (blk_lt HB5.out.1) HB5.out.2).trans HB5.out.1))
                          go_wp2_with fail
                          refine hK.out _ _ HC6.out (fun hHeld => ?_)
                          clear hK K
                          try simp only [Act.put, List.setIfInBounds_toArray, List.set_cons_zero, List.set_cons_succ, List.getElem_toArray, List.getElem_cons_zero, List.getElem_cons_succ]
                          refine wpAnyH_take (i := 21) (v := ?_) rfl (by kernel_rfl) (by kernel_rfl) (by kernel_rfl) (fun _ _ _ h => h) (Or.inl ⟨by rfl, ?_⟩) hHeld ?_
                          rotate_left
                          · intro w hSw; go_simp; try with_reducible rfl
                          try simp only [Act.put, List.setIfInBounds_toArray, List.set_cons_zero, List.set_cons_succ, List.getElem_toArray, List.getElem_cons_zero, List.getElem_cons_succ]
                          refine wpAnyH_done (by kernel_rfl) ?_ _
                          clear hHeld hl hl2 hc6 HC4 HCd HC5 HB5 HC6
                          go_wp2_with fail
                          have hr : frm X.b (x :: xs) σ τ us n = (true, m) := by rw [← HG.out, show [y, y.turn].drop 1 = y.turn :: [] from rfl, tryL, if_neg hov, Hr1.out, Hr2.out]; simp [Hq.out, contJ]
                          rw [hr]
                          go_ret
                          exact ⟨rfl, HR6.out.2, fun h => nomatch h⟩
              · obtain rfl : k = 2 := by omega
                go_wp2_with fail
                go_roundw
                case rel => exact ⟨j + 1, n2, N1, E1, N2, E2, hjl, by go_num, hn2, HQ, Lib.hid (by rw [← HG.out]; rfl)⟩
                case measure => simp [intOf]; omega
      · obtain rfl : j = X.b.length := by omega
        go_wp2_with fail
        go_ret
        have hE := HE.out
        rw [List.drop_length, tryJ] at hE
        rw [← hE]
        exact ⟨rfl, HR.out.chg, fun _ => ⟨_, _, _, _, HR.out⟩⟩
end Go.Proofs.YtkgkdfhipgjobaaDoor
