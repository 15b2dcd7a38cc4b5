/- (*Matcher).Term: a pattern is matched with a term. -/
import Derived.Test.YtkgkdfhipgjobaaDoorMatch
import Derived.Test.YtkgkdfhipgjobaaDoorMt
namespace Go.Proofs.YtkgkdfhipgjobaaDoor
open Go.RowKit
set_option linter.unusedVariables false
set_option linter.unusedSimpArgs false

def termF (p t : Tm) (σ : Sg) : Option Sg := if p.plain && t.plain then p.mt t σ else none

/-- What Term (and what is built on it) leaves: which blocks the matcher may write now, which hold what is bound. -/
structure Left (w : World) (M D : Nat → Prop) (bm : Nat) (σ : Sg) (w' : World) (M' D' : Nat → Prop) : Prop where
  m : ∀ k, M' k → M k ∨ w.heap.size ≤ k
  m0 : ∀ k, M k → M' k
  d : ∀ k, D' k → D k ∨ w.heap.size ≤ k
  d0 : ∀ k, D k → D' k
  chg : Chg M w w'
  st : MSt w' M' D' bm σ
/-- What Term answers. -/
def TermPost (w : World) (M D : Nat → Prop) (bm : Nat) (σ : Sg) (r : Option Sg) (e : Ending) (w' : World) : Prop :=
  e = .returned (.bool r.isSome) ∧ ∃ M' D', Left w M D bm (r.getD σ) w' M' D'

/-- A pointer to data that lies in blocks of E. -/
def Rd.ptrIn {α : Type} (E : Nat → Prop) (d : Rd α) : Rd α where
  sz := 1
  bytes := 8
  pos := by decide
  K := fun D w x cs => ∃ b o cs', cs = [.pointer (some ⟨b, o, none⟩)] ∧ (D b ∧ E b) ∧ d.K (fun k => D k ∧ E k) w x cs' ∧ CellsAt w b o cs'
  len := by rintro D w x cs ⟨b, o, c, rfl, _⟩; rfl
  one := by rintro D w x cs ⟨b, o, c, rfl, _⟩ u hu; rw [List.mem_singleton.1 hu]; rfl
  keep := by rintro D w w' x cs hk ⟨b, o, c, rfl, hb, h, hc⟩; exact ⟨b, o, c, rfl, hb, d.keep (fun k h => hk k h.1) h, hc.keep (hk b hb.1)⟩
  mono := by rintro D D' w x cs hm ⟨b, o, c, rfl, hb, h, hc⟩; exact ⟨b, o, c, rfl, ⟨hm b hb.1, hb.2⟩, d.mono (fun k h => ⟨hm k h.1, h.2⟩) h, hc⟩
  bound := by rintro D w x cs ⟨b, o, c, rfl, hb, h, hc⟩; exact ⟨b, o, c, rfl, ⟨⟨hb.1, hc.lt (by rw [d.len h]; exact d.pos)⟩, hb.2⟩, d.mono (fun k h => ⟨⟨h.1.1, h.2⟩, h.1.2⟩) (d.bound h), hc⟩
def stepRd (E : Nat → Prop) : Rd (Tm × Tm) := Rd.pair (Rd.ptr Tm.rd) (Rd.ptrIn E Tm.rd)
/-- A store at a new key, as one world. -/
theorem update_new {P : Program} {T K E : TypeId} {w W : World} {r : Nat} {es : Array MapEntry} {clock : Nat} {ps : List (Int × Value)} (hT : P.underlying T = some (.map K E)) (hK : P.underlying K = some (.int .i64)) (hb : w.heap[r]? = some (.map es clock)) (hi : IKeys es.toList ps) (k : Int) (v : Value) (hn : ∀ p ∈ ps, p.1 ≠ k) :
    ∃ V, (Instr.mapUpdate T (.map (some r)) (.int .i64 k) v).run P w = .ok () V ∧ Chg (· = r) w V ∧ V.heap.size = w.heap.size ∧ ∃ es', V.heap[r]? = some (.map es' (clock + 1)) ∧ IKeys es'.toList (ps ++ [(k, v)]) := by
  refine ⟨_, run_update_new hT hK hb hi k v hn, putO_chg _ _ _, putO_size _ _ _, _, putO_at hb, ?_⟩
  unfold IKeys at hi ⊢
  simp [hi]
theorem own_blk {w : World} {base size n : Nat} {e : TypeId} {v : Value} {xs : List Value} (h : w.ownsRow base e size v n xs) (k : Nat) (hk : v.ownBlock = some k) : ∃ cur, w.heap[k]? = some (.cells cur e (0, 0)) := by
  rcases h.2 with ⟨rfl, _⟩ | ⟨g, cap, cur, rfl, hb, hh, _⟩
  · simp [Value.ownBlock] at hk
  · have : g = k := by simpa [Value.ownBlock] using hk
    subst this
    exact ⟨cur, hh⟩
theorem Ents.none_ {D : Nat → Prop} {w : World} {ps : List (Int × Value)} {σ : Sg} (h : Ents D w ps σ) {v : Int} (hl : lookS v σ = none) : ∀ p ∈ ps, p.1 ≠ v := by
  intro p hp
  obtain ⟨i, hi, rfl⟩ := List.getElem_of_mem hp
  have hi' : i < σ.length := by rw [← h.1]; exact hi
  rw [(h.2 i _ _ (List.getElem?_eq_getElem hi) (List.getElem?_eq_getElem hi')).1]
  exact lookS_none.1 hl _ (List.getElem_mem hi')
theorem Ents.some_ {D : Nat → Prop} {w : World} {ps : List (Int × Value)} {σ : Sg} (h : Ents D w ps σ) {v : Int} {u : Tm} (hl : lookS v σ = some u) : ∃ i x, fnd v ps 0 = some (i, x) ∧ (Rd.ptr Tm.rd).K D w u [x] := by
  obtain ⟨i, hi, h1, h2⟩ := lookS_get hl
  have hi' : i < ps.length := by rw [h.1]; exact hi
  have hk := h.2 i _ _ (List.getElem?_eq_getElem hi') (List.getElem?_eq_getElem hi)
  rw [h1] at hk
  refine ⟨i, ps[i].2, ?_, hk.2⟩
  have := fnd_some (i := 0) hi' hk.1 (fun m hm => by
    rw [(h.2 m _ _ (List.getElem?_eq_getElem (by omega)) (List.getElem?_eq_getElem (by omega))).1]
    exact h2 m hm)
  simpa using this
theorem infoInt : (Tryd.prog.info? 3).map (fun i => (i.zero, i.size, i.bytes)) = some (some (.int .i64 0), 1, 8) := by kernel_rfl
theorem infoStep : (Tryd.prog.info? 164).map (fun i => (i.zero, i.size, i.bytes)) = some (some (.agg #[.pointer none, .pointer none]), 2, 16) := by kernel_rfl

/-- Between two rounds of Term's loop: S: the heap's size when the loop began (its row of steps lies at S or beyond). -/
structure TI (S : Nat) (M Dp D : Nat → Prop) (bm : Nat) (σ0 : Sg) (R0 : Option Sg) (w : World) (n : Nat) (wr : World) (v : Value) (todo : List (Tm × Tm)) (σ : Sg) (M' : Nat → Prop) : Prop where
  own : (stepRd D).Own Dp 164 wr S v todo.reverse
  st : MSt wr M' D bm σ
  m : ∀ k, M' k → M k ∨ S ≤ k
  m0 : ∀ k, M k → M' k
  nm : ∀ k, v.ownBlock = some k → ¬ M' k
  chg : Chg M w wr
  go : mtodo todo σ = R0
  fit : ∀ x ∈ todo, x.1.AllH fits
  pre : σ.take σ0.length = σ0 ∧ σ0.length ≤ σ.length
  cnt : todoN todo ≤ n
  lim : σ.length + todoN todo ≤ 1099511627776
  size : S ≤ wr.heap.size

theorem below_drewN {B : Nat} {w W : World} (h : Below B w W) (n : Nat) : Below B w (W.drewN n) := ⟨h.os, h.tape, h.output, h.size, h.block⟩
/-- The next step is taken off; the matcher may have turned. -/
theorem TI.pop {S : Nat} {M Dp D : Nat → Prop} {bm : Nat} {σ0 : Sg} {R0 : Option Sg} {w : World} {n : Nat} {wr : World} {x : Tm × Tm} {rest : List (Tm × Tm)} {σ : Sg} {M' : Nat → Prop} {g cv : Nat}
    (hI : TI S M Dp D bm σ0 R0 w n wr (.slice (some ⟨g, 0, none⟩) (rest.length + 1) cv) (x :: rest) σ M') (hS : w.heap.size ≤ S) (hDp : ∀ k, Dp k → k < S ∧ ¬ M k) {w5 : World} {M'' : Nat → Prop} {σ'' : Sg} {n' : Nat}
    (hc : Chg M' wr w5) (hst : MSt w5 M'' D bm σ'') (hm : ∀ k, M'' k → M' k ∨ wr.heap.size ≤ k) (hm0 : ∀ k, M' k → M'' k) (hgo : mtodo rest σ'' = R0) (hpre : σ''.take σ0.length = σ0 ∧ σ0.length ≤ σ''.length)
    (hl : σ''.length ≤ σ.length + 1) (hn : todoN rest ≤ n') : TI S M Dp D bm σ0 R0 w n' w5 (.slice (some ⟨g, 0, none⟩) rest.length cv) rest σ'' M'' := by
  have hDM : ∀ k, Dp k → ¬ M' k := fun k hk hm' => by rcases hI.m k hm' with h | h; exact (hDp k hk).2 h; have := (hDp k hk).1; omega
  have hown := hI.own.take rest.length (by simp)
  have ht : (x :: rest).reverse.take rest.length = rest.reverse := by
    rw [List.reverse_cons, List.take_append_of_le_length (by simp), List.take_of_length_le (by simp)]
  rw [ht] at hown
  have hb := (hI.own.base g rfl)
  refine ⟨hown.chg hc (fun k hk => ?_), hst, fun k hk => ?_, fun k hk => hm0 k (hI.m0 k hk), fun k hk hM => ?_, hI.chg.trans hc (fun i hi hlt => ?_), hgo, fun y hy => hI.fit y (List.mem_cons_of_mem _ hy), hpre, hn, ?_, Nat.le_trans hI.size hc.size⟩
  · rcases hk with hk | hk
    · exact hDM k hk
    · exact hI.nm k (by simpa [Value.ownBlock] using hk)
  · rcases hm k hk with h | h
    · exact hI.m k h
    · exact .inr (Nat.le_trans hI.size h)
  · simp only [Value.ownBlock, Option.some.injEq] at hk
    subst hk
    rcases hm _ hM with h | h
    · exact hI.nm _ rfl h
    · omega
  · rcases hI.m i hi with h | h
    · exact h
    · omega
  · have h1 := hI.lim
    have h2 := x.1.nodes_pos
    simp only [todoN, List.map_cons, List.sum_cons] at h1 ⊢
    omega
/-- A variable is bound. -/
theorem MSt.bind_ {wr V w4 : World} {M' D1 : Nat → Prop} {σ' : Sg} {bm mb : Nat} {A : Option Addr} {cap clock : Nat} {es' : Array MapEntry} {ps : List (Int × Value)} {v : Int} {t1 : Tm} {cst : List Value} {bt ot g3 cap3 : Nat} {o3 : Obj} {Dx : Nat → Prop}
    (hst : MSt wr M' D1 bm σ') (m1 : wr.heap[bm]? = some (.cells #[.map (some mb), .slice A σ'.length cap] 80 (0, 0))) (hmb : mb ≠ bm) (m3 : M' bm) (m4 : M' mb) (m5 : ∀ k, (Value.slice A σ'.length cap).ownBlock = some k → M' k) (m8 : Ents D1 wr ps σ') (hmlt : mb < wr.heap.size)
    (hrow : ∀ k, (Value.slice A σ'.length cap).ownBlock = some k → k ≠ mb ∧ k ≠ bm ∧ k < wr.heap.size) (hl : lookS v σ' = none)
    (hVc : Chg (· = mb) wr V) (hVm : V.heap[mb]? = some (.map es' (clock + 1))) (hVi : IKeys es'.toList (ps ++ [(v, .pointer (some ⟨bt, ot, none⟩))]))
    (hown3 : Rd.int.Own (fun _ => False) 3 w4 0 (.slice (some ⟨g3, 0, none⟩) (σ'.length + 1) cap3) (σ'.map (·.1) ++ [v])) (hg3 : (V.alloc o3).grownBy w4 (Value.slice A σ'.length cap).ownBlock) (hat3 : (Value.slice A σ'.length cap).ownBlock = some g3 ∨ g3 = (V.alloc o3).heap.size) (hlt3 : g3 < w4.heap.size)
    (hKt : Tm.K (fun k => Dx k ∧ D1 k) wr t1 cst) (hCt : CellsAt wr bt ot cst) (hbt : D1 bt) (hlen : σ'.length + 1 ≤ 1099511627776) :
    MSt (w4.setCell ⟨bm, 1, none⟩ (.slice (some ⟨g3, 0, none⟩) (σ'.length + 1) cap3)) (fun k => M' k ∨ k = g3) D1 bm (σ' ++ [(v, t1)]) ∧ Chg M' wr (w4.setCell ⟨bm, 1, none⟩ (.slice (some ⟨g3, 0, none⟩) (σ'.length + 1) cap3)) ∧ (M' g3 ∨ wr.heap.size ≤ g3) := by
  have hg3' : M' g3 ∨ wr.heap.size ≤ g3 := by
    rcases hat3 with h | h
    · exact .inl (m5 g3 h)
    · right; have := hVc.size; simp at h; omega
  have hbm := hst.lt bm m3
  have hgb : g3 ≠ bm ∧ g3 ≠ mb := by
    rcases hat3 with h | h
    · exact ⟨(hrow g3 h).2.1, (hrow g3 h).1⟩
    · have := hVc.size
      simp at h
      exact ⟨by omega, by omega⟩
  have hb4 : ∀ k, k < wr.heap.size → k ≠ mb → (Value.slice A σ'.length cap).ownBlock ≠ some k → w4.heap[k]? = wr.heap[k]? := fun k hk h1 h2 =>
    (hg3.block k (by have := hVc.size; simp; omega) (fun e => h2 e.symm)).trans ((Below.heap_alloc _ _ _ (by have := hVc.size; omega)).trans (hVc.block k hk h1))
  have hcM : Chg M' wr (w4.setCell ⟨bm, 1, none⟩ (.slice (some ⟨g3, 0, none⟩) (σ'.length + 1) cap3)) := by
    refine chg_set (((hVc.mono (fun k _ e => e ▸ m4)).alloc o3).grown hg3 (fun k hk hlt => m5 k hk)) (fun _ => m3) _
  have hs5 : wr.heap.size ≤ w4.heap.size := by have h1 := hVc.size; have h2 := hg3.size; simp at h2; omega
  refine ⟨⟨⟨mb, some ⟨g3, 0, none⟩, cap3, es', clock + 1, ps ++ [(v, .pointer (some ⟨bt, ot, none⟩))], ?_, ?_, .inl m3, .inl m4, ?_, ?_, hVi, ?_⟩, ?_, ?_, ?_, ?_, by simpa using hlen⟩, hcM, hg3'⟩
  · have : w4.heap[bm]? = some (.cells #[.map (some mb), .slice A σ'.length cap] 80 (0, 0)) := (hb4 bm hbm (Ne.symm hmb) (fun e => (hrow bm e).2.1 rfl)).trans m1
    have := blk_set this 1 (.slice (some ⟨g3, 0, none⟩) (σ'.length + 1) cap3)
    simpa using this
  · refine (blk_set_ne hmb).trans ((hg3.block mb (by have := hVc.size; simp; omega) (fun e => (hrow mb e.symm).1 rfl)).trans (blk_alloc hVm _))
  · intro k hk
    simp only [Value.ownBlock, Option.some.injEq] at hk
    exact .inr hk.symm
  · simp only [List.length_append, List.length_singleton, List.map_append, List.map_cons, List.map_nil]
    exact hown3.stay (fun k hk _ => blk_set_ne (by rcases hk with hk | hk; exact hk.elim; simp only [Value.ownBlock, Option.some.injEq] at hk; omega)) (fun _ h => h)
  · have hD : ∀ k, D1 k → k < wr.heap.size → (w4.setCell ⟨bm, 1, none⟩ (.slice (some ⟨g3, 0, none⟩) (σ'.length + 1) cap3)).heap[k]? = wr.heap[k]? := fun k hk hlt => hcM.block k hlt (hst.dis k hk)
    have h8 := m8.stay (D' := D1) hD (fun k h _ => h)
    refine ⟨by simp [m8.1], fun i p q hp hq => ?_⟩
    by_cases hi : i < σ'.length
    · rw [List.getElem?_append_left (by rw [m8.1]; exact hi)] at hp
      rw [List.getElem?_append_left hi] at hq
      exact h8.2 i p q hp hq
    · rw [List.getElem?_append_right (by rw [m8.1]; omega)] at hp
      rw [List.getElem?_append_right (by omega)] at hq
      have hi' : i = σ'.length := by
        have := (List.getElem?_eq_some_iff.1 hq).1
        simp at this
        omega
      subst hi'
      rw [m8.1] at hp
      simp at hp hq
      subst hp
      subst hq
      exact ⟨rfl, bt, ot, cst, rfl, hbt, Tm.rd.mono (fun k h => h.1.2) (Tm.rd.keep (fun k h => hD k h.1.2 h.2) (Tm.K.bound hKt)), hCt.keep (hD bt hbt (hst.ltD bt hbt))⟩
  · rw [List.map_append]
    refine List.nodup_append.2 ⟨hst.nd, by simp, fun a ha b hb => ?_⟩
    simp at hb
    subst hb
    obtain ⟨p, hp, rfl⟩ := List.mem_map.1 ha
    exact lookS_none.1 hl p hp
  · intro k hk
    rw [size_set]
    rcases hk with hk | hk
    · exact Nat.lt_of_lt_of_le (hst.lt k hk) hs5
    · rw [hk]; exact hlt3
  · intro k hk
    rw [size_set]
    exact Nat.lt_of_lt_of_le (hst.ltD k hk) hs5
  · intro k hk hM
    rcases hM with hM | hM
    · exact hst.dis k hk hM
    · subst hM
      rcases hg3' with h | h
      · exact hst.dis _ hk h
      · have := hst.ltD _ hk; omega
set_option maxRecDepth 100000 in
set_option maxHeartbeats 2000000 in
theorem term_any (w : World) (M D Dp Dt : Nat → Prop) (bm : Nat) (σ : Sg) (h : MSt w M D bm σ) (p t : Tm) (A1 A2 : Option Addr) (c1 c2 : Nat)
    (hp : Tm.K Dp w p [.int .i64 p.hd, .slice A1 p.args.length c1]) (ht : Tm.K Dt w t [.int .i64 t.hd, .slice A2 t.args.length c2]) (hDp : ∀ k, Dp k → ¬ M k) (hsz : σ.length + p.nodes ≤ 1099511627776) (hfit : p.AllH fits) :
    Calls Tryd.prog 113 #[.pointer (some ⟨bm, 0, none⟩), .agg #[.int .i64 p.hd, .slice A1 p.args.length c1], .agg #[.int .i64 t.hd, .slice A2 t.args.length c2]] w (TermPost w M D bm σ (termF p t σ)) := by
  have HB2 := Lib.hid (fun o1 o2 => ((Below.refl w.heap.size w).alloc (Nat.le_refl _) o1).alloc (by simp) o2)
  have HP := Lib.hid (fun W hb => Rd.below (d := Tm.rd) (w' := W) hp hb)
  have HT := Lib.hid (fun W hb => Rd.below (d := Tm.rd) (w' := W) ht hb)
  have HM := Lib.hid h
  have hc1 := Lib.hid hDp
  clear hp ht h hDp
  have HCp : Hid (CellsAt ((w.alloc (.cells #[.int .i64 p.hd, .slice A1 p.args.length c1] 30)).alloc (.cells #[.int .i64 t.hd, .slice A2 t.args.length c2] 30)) w.heap.size 0 [.int .i64 p.hd, .slice A1 p.args.length c1]) :=
    CellsAt.blk (cs := #[_, _]) (blk_alloc (blk_alloc_new w _) _)
  have HCt : Hid (CellsAt ((w.alloc (.cells #[.int .i64 p.hd, .slice A1 p.args.length c1] 30)).alloc (.cells #[.int .i64 t.hd, .slice A2 t.args.length c2] 30)) (w.heap.size + 1) 0 [.int .i64 t.hd, .slice A2 t.args.length c2]) := by
    have := CellsAt.blk (cs := #[.int .i64 t.hd, .slice A2 t.args.length c2]) (blk_alloc_new (w.alloc (.cells #[.int .i64 p.hd, .slice A1 p.args.length c1] 30)) (.cells #[.int .i64 t.hd, .slice A2 t.args.length c2] 30))
    simpa [Hid] using this
  cases hpp : p.plain with
  | false =>
    have Hpp := Lib.hid hpp
    clear hpp
    go_enter Tryd.func113, Tryd.ntmps113
    go_wp2_with fail
    go_step3
    go_wp2_with fail
    refine (plain_any p Dp _ _ _ _ (HP.out _ (HB2.out _ _)) HCp.out).mono ?_
    rw [Hpp.out]
    rintro e w' ⟨rfl, rfl⟩
    go_wp2_with fail
    try rw [Exit.noGoto_ret]
    go_ret
    have hb := HB2.out (.cells #[.int .i64 p.hd, .slice A1 p.args.length c1] 30) (.cells #[.int .i64 t.hd, .slice A2 t.args.length c2] 30)
    have hr : termF p t σ = none := by unfold termF; rw [Hpp.out]; rfl
    rw [hr]
    exact ⟨rfl, M, D, fun _ h => .inl h, fun _ h => h, fun _ h => .inl h, fun _ h => h, Chg.of_below hb M, HM.out.below hb⟩
  | true =>
  cases htp : t.plain with
  | false =>
    have Hpp := Lib.hid hpp
    have Htp := Lib.hid htp
    clear hpp htp
    go_enter Tryd.func113, Tryd.ntmps113
    go_wp2_with fail
    go_step3
    go_wp2_with fail
    refine (plain_any p Dp _ _ _ _ (HP.out _ (HB2.out _ _)) HCp.out).mono ?_
    rw [Hpp.out]
    rintro e w' ⟨rfl, rfl⟩
    go_wp2_with fail
    refine (plain_any t Dt _ _ _ _ (HT.out _ (HB2.out _ _)) HCt.out).mono ?_
    rw [Htp.out]
    rintro e w' ⟨rfl, rfl⟩
    go_wp2_with fail
    try rw [Exit.noGoto_ret]
    go_ret
    have hb := HB2.out (.cells #[.int .i64 p.hd, .slice A1 p.args.length c1] 30) (.cells #[.int .i64 t.hd, .slice A2 t.args.length c2] 30)
    have hr : termF p t σ = none := by unfold termF; rw [Htp.out, Bool.and_false]; rfl
    rw [hr]
    exact ⟨rfl, M, D, fun _ h => .inl h, fun _ h => h, fun _ h => .inl h, fun _ h => h, Chg.of_below hb M, HM.out.below hb⟩
  | true =>
    have Hpp := Lib.hid hpp
    have Htp := Lib.hid htp
    clear hpp htp
    go_enter Tryd.func113, Tryd.ntmps113
    go_wp2_with fail
    go_step3
    go_wp2_with fail
    refine (plain_any p Dp _ _ _ _ (HP.out _ (HB2.out _ _)) HCp.out).mono ?_
    rw [Hpp.out]
    rintro e w' ⟨rfl, rfl⟩
    go_wp2_with fail
    refine (plain_any t Dt _ _ _ _ (HT.out _ (HB2.out _ _)) HCt.out).mono ?_
    rw [Htp.out]
    rintro e w' ⟨rfl, rfl⟩
    go_wp2_with fail
    refine (mark_any _ M D bm σ (HM.out.below (HB2.out _ _))).mono ?_
    rintro e w' ⟨rfl, rfl⟩
    go_wp2_with fail
    refine (copy_any t Dt _ _ _ (HT.out _ (HB2.out _ _))).mono ?_
    rintro e w2 ⟨A3, c3, rfl, hK3, hb3⟩
    have HK3 := Lib.hid hK3
    have HB3 := Lib.hid hb3
    have hs3 : w.heap.size + 2 ≤ w2.heap.size := by have := hb3.size; simp at this; omega
    clear hK3 hb3
    go_wp2_with fail
    go_step3
    go_wp2_with fail
    -- the loop
    have hM := HM.out
    have hst0 : MSt w2 M D bm σ := (hM.below (HB2.out _ _)).below HB3.out
    have hDlt := hM.ltD
    have hMlt := hM.lt
    let S : Nat := w2.heap.size + 1
    let D1 : Nat → Prop := fun k => D k ∨ (w.heap.size + 2 ≤ k ∧ k < w2.heap.size + 1)
    let Dq : Nat → Prop := fun k => (Dp k ∧ k < w.heap.size) ∨ k = w.heap.size ∨ (w.heap.size + 2 ≤ k ∧ k < w2.heap.size + 1)
    have hDq : ∀ k, Dq k → k < S ∧ ¬ M k := by
      rintro k (⟨h1, h2⟩ | h1 | h1)
      · exact ⟨by show k < w2.heap.size + 1; omega, hc1.out k h1⟩
      · exact ⟨by show k < w2.heap.size + 1; omega, fun hm => by have := hMlt k hm; omega⟩
      · exact ⟨by show k < w2.heap.size + 1; omega, fun hm => by have := hMlt k hm; omega⟩
    have hstart : TI S M Dq D1 bm σ (termF p t σ) w p.nodes ((w2.alloc (.cells #[.int .i64 t.hd, .slice A3 t.args.length c3] 30)).alloc (.cells #[.pointer (some ⟨w.heap.size, 0, none⟩), .pointer (some ⟨w2.heap.size, 0, none⟩)] 164))
        (.slice (some ⟨w2.heap.size + 1, 0, none⟩) 1 1) [(p, t)] σ M := by
      have hbo : ∀ o1 o2 : Obj, Below w2.heap.size w2 ((w2.alloc o1).alloc o2) := fun o1 o2 => ((Below.refl _ w2).alloc (Nat.le_refl _) o1).alloc (by simp) o2
      have hb1 : ∀ o1 : Obj, Below w2.heap.size w2 (w2.alloc o1) := fun o1 => (Below.refl _ w2).alloc (Nat.le_refl _) o1
      have hx : (stepRd D1).K (fun k => Dq k ∧ k ≠ (w2.alloc (.cells #[.int .i64 t.hd, .slice A3 t.args.length c3] 30)).heap.size) (w2.alloc (.cells #[.int .i64 t.hd, .slice A3 t.args.length c3] 30)) (p, t)
          [.pointer (some ⟨w.heap.size, 0, none⟩), .pointer (some ⟨w2.heap.size, 0, none⟩)] := by
        refine ⟨[_], [_], rfl, ⟨w.heap.size, 0, [.int .i64 p.hd, .slice A1 p.args.length c1], rfl, ⟨.inr (.inl rfl), by simp; omega⟩, ?_, ?_⟩, ⟨w2.heap.size, 0, [.int .i64 t.hd, .slice A3 t.args.length c3], rfl, ⟨⟨.inr (.inr ⟨by omega, by omega⟩), by simp⟩, .inr ⟨by omega, by omega⟩⟩, ?_, CellsAt.blk (cs := #[.int .i64 t.hd, .slice A3 t.args.length c3]) (blk_alloc_new w2 _)⟩⟩
        · exact Tm.rd.mono (fun k hk => ⟨.inl hk, by simp; omega⟩) (Rd.below (d := Tm.rd) (Rd.below (d := Tm.rd) (Rd.below (d := Tm.rd) (Tm.K.bound (HP.out _ (Below.refl _ w))) (HB2.out _ _)) HB3.out) (hb1 _))
        · exact (HCp.out.keep (HB3.out.block _ (by simp; omega))).keep (Below.heap_alloc _ _ _ (by omega))
        · exact Tm.rd.mono (fun k hk => ⟨⟨.inr (.inr ⟨by have := hk.1; simp at this; omega, by have := hk.2; omega⟩), by have := hk.2; simp; omega⟩, .inr ⟨by have := hk.1; simp at this; omega, by have := hk.2; omega⟩⟩) (Rd.below (d := Tm.rd) (Tm.K.bound HK3.out) (hb1 _))
      refine ⟨?_, ?_, fun k h => .inl h, fun k h => h, ?_, ?_, ?_, ?_, ⟨List.take_length, Nat.le_refl _⟩, by simp [todoN], by simp [todoN]; omega, by simp [S]⟩
      · have := Rd.Own.one (e := 164) (b := S) hx (by simp [S])
        simpa using this
      · exact hst0.chg (Chg.of_below (hbo _ _) (fun _ => False)) (fun _ _ h => h.elim) (fun k h => .inl h) (fun k hk => by rcases hk with hk | hk; (have := hDlt k hk; simp; omega); simp; omega) (fun k hk hm => by rcases hk with hk | hk; exact hM.dis k hk hm; have := hMlt k hm; omega)
      · intro k hk hm
        simp only [Value.ownBlock, Option.some.injEq] at hk
        have := hMlt k hm
        omega
      · have h3 : Below w.heap.size w w2 := (HB2.out _ _).trans (HB3.out.mono (by simp; omega))
        exact Chg.of_below (h3.trans ((hbo _ _).mono (by omega))) M
      · show mtodo [(p, t)] σ = _
        unfold termF
        rw [Hpp.out, Htp.out]
        simp [mtodo]
      · intro x hx'
        simp at hx'
        subst hx'
        exact hfit
    have hSw : w.heap.size + 2 ≤ S := by show _ ≤ w2.heap.size + 1; omega
    have hD1 : ∀ k, D1 k → D k ∨ w.heap.size ≤ k := fun k hk => by rcases hk with hk | hk; exact .inl hk; exact .inr (by omega)
    have hD0 : ∀ k, D k → D1 k := fun k hk => .inl hk
    have hD1S : ∀ k, D1 k → k < S := fun k hk => by rcases hk with hk | hk; (have := hDlt k hk; show _ < w2.heap.size + 1; omega); exact hk.2
    clear hst0 hM
    clear_value S D1 Dq
    go_loopg [9] p.nodes (fun gk v wr => ∃ (todo : List (Tm × Tm)) (Av : Option Addr) (cv : Nat) (σ' : Sg) (M' : Nat → Prop), v = .slice Av todo.length cv ∧ Hid (TI S M Dq D1 bm σ (termF p t σ) w gk wr (.slice Av todo.length cv) todo σ' M'))
    case atStart => exact ⟨[(p, t)], _, _, σ, M, rfl, hstart⟩
    case round =>
      obtain ⟨todo, Av, cv, σ', M', rfl, hI⟩ := hrel
      clear hstart
      cases todo with
      | nil =>
        go_wp2_with fail
        rw [Exit.noGoto_ret]
        go_ret
        have hI' := hI.out
        rw [← hI'.go]
        exact ⟨rfl, M', D1, ⟨fun k h => by rcases hI'.m k h with h | h; exact .inl h; exact .inr (by omega), hI'.m0, hD1, hD0, hI'.chg, hI'.st⟩⟩
      | cons x rest =>
        obtain ⟨⟨f, l⟩, t1⟩ := x
        have hI' := hI.out
        obtain ⟨g, cs, rfl, hg1, hg2, hK, hC, -, hcv, hcm⟩ := hI'.own.get rest.length (by simp)
        rw [show ((Tm.mk f l, t1) :: rest).reverse[rest.length]'(by simp) = (Tm.mk f l, t1) by simp] at hK
        obtain ⟨k0, k1, rfl, ⟨bp, op, csp, rfl, hbp, hKp, hCp⟩, ⟨bt, ot, cst, rfl, hbt, hKt, hCt⟩⟩ := hK
        obtain ⟨Ap, cp, rfl, hSp⟩ := Tm.K.open_ hKp
        obtain ⟨At, ct, rfl⟩ := Tm.K.two hKt
        have a0 : wr.cell? ⟨g, rest.length * 2, none⟩ = some (.pointer (some ⟨bp, op, none⟩)) := hC.c0
        have a1 : wr.cell? ⟨g, rest.length * 2 + 1, none⟩ = some (.pointer (some ⟨bt, ot, none⟩)) := hC.c1
        have b0 := hCp.c0
        have b1 := hCp.c1
        have d0 := hCt.c0
        have d1 := hCt.c1
        obtain ⟨mb, A, cap, es, clock, ps, m1, m2, m3, m4, m5, m6, m7, m8⟩ := hI'.st.ex
        have e0 : wr.cell? ⟨bm, 0, none⟩ = some (.map (some mb)) := by rw [blk_cell m1]; rfl
        have e1 : wr.cell? ⟨bm, 1, none⟩ = some (.slice A (List.length σ') cap) := by rw [blk_cell m1]; rfl
        have l1 : bp < wr.heap.size := World.block_lt_of_cell? wr _ b0
        have l2 : bt < wr.heap.size := World.block_lt_of_cell? wr _ d0
        have l3 : bm < wr.heap.size := blk_lt m1
        have l4 : mb < wr.heap.size := blk_lt m2
        have hlen : rest.length + 1 ≤ cv := by simpa using hcv
        have hcm' : cv ≤ 9223372036854775807 := hcm
        have hfit1 := hI'.fit _ List.mem_cons_self
        rw [Tm.AllH_mk] at hfit1
        obtain ⟨⟨hf1, hf2⟩, hfl⟩ := hfit1
        have hgo : Hid (((Tm.mk f l).mt t1 σ').bind (mtodo rest) = termF p t σ) := hI'.go
        have HI := Lib.hid hI'
        have HQ := Lib.hid (And.intro m1 (And.intro m2 (And.intro m3 (And.intro m4 (And.intro m5 (And.intro m6 (And.intro m7 m8)))))))
        have HK := Lib.hid (And.intro hSp (And.intro hKt hCt))
        have HFL := Lib.hid hfl
        clear hI' hI m1 m2 m3 m4 m5 m6 m7 m8 hKp hSp hKt hCt hCp hC hcv hcm hfl
        rw [List.length_cons]
        by_cases hf : f < 0
        · have q1 : decide (f < 0) = true := by simpa using hf
          cases hlk : lookS (-1 - f) σ' with
          | none =>
            have hz : ∀ w, (zeroValue 121).run Tryd.prog w = .ok (.pointer none) w := fun w => by kernel_rfl
            have hl1 : ∀ o, (Instr.lookup 78 (.map (some mb)) (.int .i64 (-1 - f)) false).run Tryd.prog (wr.alloc o) = .ok (.pointer none) (wr.alloc o) := fun o => by
              have := run_lookup_int (P := Tryd.prog) (T := 78) Tryd.underlying78 Tryd.underlying3 hz (blk_alloc HQ.out.2.1 o) HQ.out.2.2.2.2.2.2.1 (-1 - f)
              rw [fnd_none (HQ.out.2.2.2.2.2.2.2.none_ hlk)] at this
              exact this
            have Hlk := Lib.hid hlk
            clear hz hlk
            obtain ⟨V, hup, hVc, hVs, es', hVm, hVi⟩ := update_new (P := Tryd.prog) (T := 78) (W := wr) (w := (wr.alloc (.cells #[.pointer (some ⟨bp, op, none⟩), .pointer (some ⟨bt, ot, none⟩)] 164)).drew) Tryd.underlying78 Tryd.underlying3 (blk_alloc HQ.out.2.1 _) HQ.out.2.2.2.2.2.2.1 (-1 - f) (.pointer (some ⟨bt, ot, none⟩)) (HQ.out.2.2.2.2.2.2.2.none_ Hlk.out)
            have hmb : mb ≠ bm := fun e => by have h1 := HQ.out.1; have h2 := HQ.out.2.1; subst e; rw [h1] at h2; simp at h2
            have hVb : ∀ k, k < wr.heap.size → k ≠ mb → V.heap[k]? = wr.heap[k]? := fun k hk hn => (hVc.block k (by show _ < (wr.heap.push _).size; simp; omega) hn).trans (Below.heap_alloc _ _ _ hk)
            have v1 : V.cell? ⟨bm, 1, none⟩ = some (.slice A (List.length σ') cap) := by rw [blk_cell ((hVb bm l3 (Ne.symm hmb)).trans HQ.out.1)]; rfl
            have hVs' : wr.heap.size + 1 ≤ V.heap.size := by rw [hVs]; show _ ≤ (wr.heap.push _).size; simp
            have HV := Lib.hid (And.intro hVc (And.intro hVm (And.intro hVi hVb)))
            have e0' : (wr.alloc (.cells #[.pointer (some ⟨bp, op, none⟩), .pointer (some ⟨bt, ot, none⟩)] 164)).cell? ⟨bm, 0, none⟩ = some (.map (some mb)) := cell_new e0 _
            clear hVc hVm hVi hVb hVs
            have hne : ∀ k, (Value.slice A (List.length σ') cap).ownBlock = some k → k ≠ mb ∧ k ≠ bm ∧ k < wr.heap.size := fun k hk => by
              obtain ⟨cells, ho, _⟩ := HQ.out.2.2.2.2.2.1
              obtain ⟨cur, hcur⟩ := own_blk ho k hk
              refine ⟨fun e => ?_, fun e => ?_, blk_lt hcur⟩
              · subst e; have h2 := HQ.out.2.1; rw [hcur] at h2; simp at h2
              · subst e; have h1 := HQ.out.1; rw [hcur] at h1; simp at h1
            have HOV := Lib.hid (fun o => (HQ.out.2.2.2.2.2.1.stay (w' := V) (D' := fun _ => False) (fun k hk hlt => by rcases hk with hk | hk; exact hk.elim; exact HV.out.2.2.2 k hlt (hne k hk).1) (fun _ h => h)).below ((Below.refl V.heap.size V).alloc (Nat.le_refl _) o))
            have v2 : V.frozen? ⟨bm, 1, none⟩ = false := blk_frozen ((HV.out.2.2.2 bm l3 (Ne.symm hmb)).trans HQ.out.1) 1
            have HNE := Lib.hid hne
            have hsl : List.length σ' + (1 + Tm.nodesL l) + todoN rest ≤ 1099511627776 := by have := HI.out.lim; simp only [todoN, List.map_cons, List.sum_cons, Tm.nodes_mk] at this ⊢; omega
            clear hne
            go_wp2_with fail
            go_region
            clear hup hl1
            go_wp2_with (at_builtin; refine Rd.list_own Rd.int (fun _ => False) 24 3 (.int .i64 0) 0 rfl _ _ rfl Tryd.underlying24 infoInt rfl (by decide) _ (σ'.map (·.1)) (List.length σ') (by simp) (-1 - f) _ _ rfl rfl (blk_alloc_new _ _) (HOV.out _) rfl (by show (_ + 1) * 8 ≤ _; omega) (Nat.zero_le _) ?_; intro g3 cap3 w4 hown3 hg3 hat3 hlt3; have s0 := (hg3.cell_far ⟨bm, 1, none⟩ (by simp; omega) (fun e => (HNE.out _ e.symm).2.1 rfl)).trans (cell_new v1 _); have s1 := (hg3.frozen_far ⟨bm, 1, none⟩ (by simp; omega) (fun e => (HNE.out _ e.symm).2.1 rfl)).trans ((World.frozen?_alloc_old _ _ ⟨bm, 1, none⟩ (by simp; omega)).trans v2))
            go_roundg (gk - 1)
            case measure =>
              have h1 := HI.out.cnt
              have h2 := todoN_len ((Tm.mk f l, t1) :: rest)
              simp only [List.length_cons] at h2
              omega
            case rel =>
              have hI' := HI.out
              obtain ⟨m1, m2, m3, m4, m5, m6, m7, m8⟩ := HQ.out
              obtain ⟨hst5, hc5, hg5⟩ := MSt.bind_ hI'.st m1 hmb m3 m4 m5 m8 l4 (fun k hk => HNE.out k hk) Hlk.out (((Chg.refl _ wr).alloc _).drew.trans HV.out.1 (fun _ h _ => h)) HV.out.2.1 HV.out.2.2.1 hown3 hg3 hat3 hlt3 HK.out.2.1 HK.out.2.2 hbt.2 (by omega)
              refine ⟨rest, some ⟨g, 0, none⟩, cv, σ' ++ [(-1 - f, t1)], fun k => M' k ∨ k = g3, rfl, TI.pop hI' (by omega) hDq hc5 hst5 (fun k hk => by rcases hk with hk | hk; exact .inl hk; subst hk; exact hg5) (fun k hk => .inl hk) ?_ ⟨?_, ?_⟩ (by simp) ?_⟩
              · have := hgo.out
                rw [Tm.mt_mk, if_pos hf, Hlk.out] at this
                exact this
              · rw [List.take_append_of_le_length hI'.pre.2]; exact hI'.pre.1
              · have := hI'.pre.2; simp; omega
              · have h1 := hI'.cnt; simp only [todoN, List.map_cons, List.sum_cons, Tm.nodes_mk] at h1 ⊢; omega
          | some u =>
            obtain ⟨i, x, hfn, bu, ou, csu, hx, hbu, hKu, hCu⟩ := HQ.out.2.2.2.2.2.2.2.some_ hlk
            obtain ⟨Au, cu, rfl⟩ := Tm.K.two hKu
            simp only [List.cons.injEq, and_true] at hx
            subst hx
            have hz : ∀ w, (zeroValue 121).run Tryd.prog w = .ok (.pointer none) w := fun w => by kernel_rfl
            have hl1 : ∀ o, (Instr.lookup 78 (.map (some mb)) (.int .i64 (-1 - f)) false).run Tryd.prog (wr.alloc o) = .ok (.pointer (some ⟨bu, ou, none⟩)) (wr.alloc o) := fun o => by
              have := run_lookup_int (P := Tryd.prog) (T := 78) Tryd.underlying78 Tryd.underlying3 hz (blk_alloc HQ.out.2.1 o) HQ.out.2.2.2.2.2.2.1 (-1 - f)
              rw [hfn] at this
              exact this
            have u0 := hCu.c0
            have u1 := hCu.c1
            have l5 : bu < wr.heap.size := World.block_lt_of_cell? wr _ u0
            have Hlk := Lib.hid hlk
            have HU := Lib.hid (fun W (hb : Below wr.heap.size wr W) => Rd.below (d := Tm.rd) (w' := W) hKu hb)
            have HT1 := Lib.hid (fun W (hb : Below wr.heap.size wr W) => Rd.below (d := Tm.rd) (w' := W) (Tm.rd.mono (fun k h => h.2) HK.out.2.1) hb)
            have hfind : ((Tm.mk f l).mt t1 σ') = if u.same t1 then some σ' else none := by rw [Tm.mt_mk, if_pos hf, hlk]
            have HFI := Lib.hid hfind
            have d0' := cell_new d0 (.cells #[.pointer (some ⟨bp, op, none⟩), .pointer (some ⟨bt, ot, none⟩)] 164)
            have d1' := cell_new d1 (.cells #[.pointer (some ⟨bp, op, none⟩), .pointer (some ⟨bt, ot, none⟩)] 164)
            have u0' := cell_new u0 (.cells #[.pointer (some ⟨bp, op, none⟩), .pointer (some ⟨bt, ot, none⟩)] 164)
            have u1' := cell_new u1 (.cells #[.pointer (some ⟨bp, op, none⟩), .pointer (some ⟨bt, ot, none⟩)] 164)
            clear hz hlk hKu hCu hfn hfind
            cases hq : u.same t1 with
            | true =>
              have Hq := Lib.hid hq
              clear hq
              go_wp2_with fail
              go_region_held3 (fun w' => w'.cell? ⟨bu, ou, none⟩ = some (.int .i64 u.hd) ∧ w'.cell? ⟨bu, ou + 1, none⟩ = some (.slice Au u.args.length cu) ∧ w'.cell? ⟨wr.heap.size, 1, none⟩ = some (.pointer (some ⟨bt, ot, none⟩)) ∧ w'.cell? ⟨bt, ot, none⟩ = some (.int .i64 t1.hd) ∧ w'.cell? ⟨bt, ot + 1, none⟩ = some (.slice At t1.args.length ct)) (first | (with_reducible exact ⟨r0, r1, r2, r3, r4⟩) | go_keep)
                (first | (go_at_call 42; refine (same_any u t1 D1 _ _ _ _ _ (HU.out _ (((Below.refl _ wr).alloc (Nat.le_refl _) _).drew)) (HT1.out _ (((Below.refl _ wr).alloc (Nat.le_refl _) _).drew))).mono ?_; rw [Hq.out]; rintro e w5 ⟨rfl, hb5⟩; have r0 := (hb5.cell (p := ⟨bu, ou, none⟩) (by simp; omega)).trans u0'; have r1 := (hb5.cell (p := ⟨bu, ou + 1, none⟩) (by simp; omega)).trans u1'; have r2 : w5.cell? ⟨wr.heap.size, 1, none⟩ = some (.pointer (some ⟨bt, ot, none⟩)) := (hb5.cell (by simp)).trans (by simp [go_sem]); have r3 := (hb5.cell (p := ⟨bt, ot, none⟩) (by simp; omega)).trans d0'; have r4 := (hb5.cell (p := ⟨bt, ot + 1, none⟩) (by simp; omega)).trans d1'))
              go_wp2_with fail
              have hb6 : Below wr.heap.size wr w5 := ((Below.refl _ wr).alloc (Nat.le_refl _) _).drew.trans (hb5.mono (by simp))
              go_roundg (gk - 1)
              case measure =>
                have h1 := HI.out.cnt
                have h2 := todoN_len ((Tm.mk f l, t1) :: rest)
                simp only [List.length_cons] at h2
                omega
              case rel =>
                have hI' := HI.out
                refine ⟨rest, some ⟨g, 0, none⟩, cv, σ', M', rfl, TI.pop hI' (by omega) hDq (Chg.of_below hb6 M') (hI'.st.below hb6) (fun k h => .inl h) (fun k h => h) ?_ hI'.pre (by omega) ?_⟩
                · have := hgo.out
                  rw [HFI.out, Hq.out] at this
                  exact this
                · have h1 := hI'.cnt; simp only [todoN, List.map_cons, List.sum_cons, Tm.nodes_mk] at h1 ⊢; omega
            | false =>
              have Hq := Lib.hid hq
              clear hq
              go_wp2_with fail
              go_region_held3 (fun w' => w'.cell? ⟨bu, ou, none⟩ = some (.int .i64 u.hd) ∧ w'.cell? ⟨bu, ou + 1, none⟩ = some (.slice Au u.args.length cu) ∧ w'.cell? ⟨wr.heap.size, 1, none⟩ = some (.pointer (some ⟨bt, ot, none⟩)) ∧ w'.cell? ⟨bt, ot, none⟩ = some (.int .i64 t1.hd) ∧ w'.cell? ⟨bt, ot + 1, none⟩ = some (.slice At t1.args.length ct)) (first | (with_reducible exact ⟨r0, r1, r2, r3, r4⟩) | go_keep)
                (first | (go_at_call 42; refine (same_any u t1 D1 _ _ _ _ _ (HU.out _ (((Below.refl _ wr).alloc (Nat.le_refl _) _).drew)) (HT1.out _ (((Below.refl _ wr).alloc (Nat.le_refl _) _).drew))).mono ?_; rw [Hq.out]; rintro e w5 ⟨rfl, hb5⟩; have r0 := (hb5.cell (p := ⟨bu, ou, none⟩) (by simp; omega)).trans u0'; have r1 := (hb5.cell (p := ⟨bu, ou + 1, none⟩) (by simp; omega)).trans u1'; have r2 : w5.cell? ⟨wr.heap.size, 1, none⟩ = some (.pointer (some ⟨bt, ot, none⟩)) := (hb5.cell (by simp)).trans (by simp [go_sem]); have r3 := (hb5.cell (p := ⟨bt, ot, none⟩) (by simp; omega)).trans d0'; have r4 := (hb5.cell (p := ⟨bt, ot + 1, none⟩) (by simp; omega)).trans d1'))
              go_wp2_with fail
              have hb6 : Hid (Below wr.heap.size wr w5) := ((Below.refl _ wr).alloc (Nat.le_refl _) _).drew.trans (hb5.mono (by simp))
              refine (back_any w5 M' D1 bm σ' (List.length σ) HI.out.pre.2 (HI.out.st.below hb6.out)).mono ?_
              rintro e w6 ⟨rfl, hst6, hc6, hs6⟩
              have H6 := Lib.hid (And.intro hst6 (And.intro hc6 hs6))
              clear hst6 hc6 hs6
              go_wp2_with fail
              try rw [Exit.noGoto_ret]
              go_ret
              have hI' := HI.out
              rw [← hgo.out, HFI.out, Hq.out]
              refine ⟨rfl, M', D1, ⟨fun k h => by rcases hI'.m k h with h | h; exact .inl h; exact .inr (by omega), hI'.m0, hD1, hD0, (hI'.chg.trans (Chg.of_below hb6.out M') (fun i hi hlt => by rcases hI'.m i hi with h | h; exact h; omega)).trans H6.out.2.1 (fun i hi hlt => by rcases hI'.m i hi with h | h; exact h; omega), ?_⟩⟩
              have := H6.out.1
              rw [hI'.pre.1] at this
              exact this
        · have q1 : decide (f < 0) = false := by simpa using hf
          have hmt : (Tm.mk f l).mt t1 σ' = if f = t1.hd ∧ l.length = t1.args.length then Tm.mts l t1.args σ' else none := by rw [Tm.mt_mk, if_neg hf]
          have HFI := Lib.hid hmt
          clear hmt
          have hb7 := Lib.hid (fun o => (Below.refl wr.heap.size wr).alloc (Nat.le_refl _) o)
          by_cases hh : f = t1.hd
          · by_cases hll : l.length = t1.args.length
            · have q2 : (f != t1.hd) = false := by simpa using hh
              have q3 : (f == t1.hd) = true := by simpa using hh
              have q4 : (l.length != t1.args.length) = false := by simpa using hll
              have q5 : ((l.length : Int) != (t1.args.length : Int)) = false := by simp; omega
              have HH := Lib.hid (show f = t1.hd ∧ l.length = t1.args.length from ⟨hh, hll⟩)
              have hln : l.length ≤ 1099511627776 := by
                have h1 := HI.out.lim
                have h2 := Tm.len_nodesL l
                simp only [todoN, List.map_cons, List.sum_cons, Tm.nodes_mk] at h1
                omega
              clear hh hll
              obtain ⟨wo, rfl⟩ : ∃ wo : World, wo = wr := ⟨_, rfl⟩
              have hSt : Tm.rd.Sl (fun k => (Dq k ∧ (Value.slice (some ⟨g, 0, none⟩) (rest.length + 1) cv).ownBlock ≠ some k) ∧ D1 k) wo At ct t1.args := by
                have h2 := HK.out.2.1
                cases t1 with
                | mk f1 l1 =>
                  obtain ⟨A', c', e, h3⟩ := h2.open_
                  simp only [Tm.hd, Tm.args, List.cons.injEq, Value.slice.injEq, and_true, true_and] at e
                  obtain ⟨rfl, rfl⟩ := e
                  exact h3
              have HSt := Lib.hid hSt
              have hrl : rest.length ≤ 1099511627776 := by
                have h1 := HI.out.lim
                have h2 := todoN_len rest
                simp only [todoN, List.map_cons, List.sum_cons] at h1 h2
                omega
              have hSlm : l.length ≤ cp ∧ cp ≤ 9223372036854775807 ∧ t1.args.length ≤ ct ∧ ct ≤ 9223372036854775807 := ⟨HK.out.1.le, HK.out.1.mx, hSt.le, hSt.mx⟩
              obtain ⟨hlcp, hcpm, hlct, hctm⟩ := hSlm
              have hgq : ∀ k, Dq k → k ≠ g := fun k hk e => by have := (hDq k hk).1; omega
              have HGQ := Lib.hid hgq
              have hgM : ¬ M' g := HI.out.nm g rfl
              have HGM := Lib.hid hgM
              clear hSt hgq hgM
              go_wp2_with fail
              go_quiet (fail)
              go_wp2_with fail
              go_loopw [9, 13] (fun v i wq => ∃ (j : Nat) (A9 : Option Addr) (c9 : Nat), j ≤ l.length ∧ i = .int .i64 ((j : Int) - 1) ∧ v = .slice A9 (rest.length + (l.length - j)) c9 ∧
                  Hid ((stepRd D1).Own Dq 164 wq S (.slice A9 (rest.length + (l.length - j)) c9) ((l.zip t1.args).drop j ++ rest).reverse) ∧ Hid (Chg (fun k => k = g) wo wq) ∧
                  Hid (wq.heap[wo.heap.size]? = some (.cells #[.pointer (some ⟨bp, op, none⟩), .pointer (some ⟨bt, ot, none⟩)] 164 (0, 0))) ∧ Hid (∀ k, (Value.slice A9 (rest.length + (l.length - j)) c9).ownBlock = some k → k = g ∨ wo.heap.size < k))
                (fun _ i _ => (intOf i + 1).toNat)
              case atStart =>
                have hb8 : Below wo.heap.size wo ((wo.alloc (.cells #[.pointer (some ⟨bp, op, none⟩), .pointer (some ⟨bt, ot, none⟩)] 164)).drewN nq) := below_drewN (hb7.out _) nq
                refine ⟨l.length, some ⟨g, 0, none⟩, cv, Nat.le_refl _, rfl, by simp, ?_, Chg.of_below hb8 _, blk_alloc_new wo _, fun k hk => by simp [Value.ownBlock] at hk; exact .inl hk.symm⟩
                have h1 := (HI.out.own.take rest.length (by simp)).below hb8
                have ht : ((Tm.mk f l, t1) :: rest).reverse.take rest.length = rest.reverse := by
                  rw [List.reverse_cons, List.take_append_of_le_length (by simp), List.take_of_length_le (by simp)]
                rw [ht] at h1
                show (stepRd D1).Own _ _ _ _ _ _
                rw [Nat.sub_self, Nat.add_zero, List.drop_of_length_le (by simp; omega), List.nil_append]
                exact h1
              case round =>
                obtain ⟨j, A9, c9, hj, hi, rfl, hO, hcq, hX, hob⟩ := hrel
                have hszq := hcq.out.size
                cases j with
                | zero =>
                  have hi2 := hi.trans (show (Value.int .i64 (((0 : Nat) : Int) - 1)) = .int .i64 (-1) from rfl)
                  subst hi2
                  go_wp2_with fail
                  go_roundg (gk - 1)
                  case measure =>
                    have h1 := HI.out.cnt
                    have h2 := todoN_len ((Tm.mk f l, t1) :: rest)
                    simp only [List.length_cons] at h2
                    omega
                  case rel =>
                    have hI' := HI.out
                    have hzl : ((l.zip t1.args) ++ rest).length = rest.length + (l.length - 0) := by
                      have := HH.out.2
                      simp only [List.length_append, List.length_zip]
                      omega
                    refine ⟨l.zip t1.args ++ rest, A9, c9, σ', M', by rw [hzl], ?_⟩
                    rw [hzl]
                    refine ⟨by simpa using hO.out, hI'.st.chg hcq.out (fun q hq e => ⟨fun hm => HGM.out (e ▸ hm), fun hd => by have := hD1S q hd; omega⟩) (fun _ h => h) (fun q hq => Nat.lt_of_lt_of_le (hI'.st.ltD q hq) hszq) hI'.st.dis, hI'.m, hI'.m0, fun q hq hm => ?_, hI'.chg.trans hcq.out (fun q e hlt => by omega), ?_, ?_, hI'.pre, ?_, ?_, Nat.le_trans hI'.size hszq⟩
                    · rcases hob.out q hq with e | e
                      · exact HGM.out (e ▸ hm)
                      · have := hI'.st.lt q hm; omega
                    · rw [mtodo_zip _ _ _ _ HH.out.2]
                      have := hgo.out
                      rw [HFI.out, if_pos HH.out] at this
                      exact this
                    · intro y hy
                      rcases List.mem_append.1 hy with hy | hy
                      · exact (Tm.AllL_iff _ _).1 HFL.out _ (List.of_mem_zip hy).1
                      · exact hI'.fit y (List.mem_cons_of_mem _ hy)
                    · have h1 := hI'.cnt
                      rw [todoN_append, todoN_zip _ _ HH.out.2]
                      simp only [todoN, List.map_cons, List.sum_cons, Tm.nodes_mk] at h1 ⊢
                      omega
                    · have h1 := hI'.lim
                      rw [todoN_append, todoN_zip _ _ HH.out.2]
                      simp only [todoN, List.map_cons, List.sum_cons, Tm.nodes_mk] at h1 ⊢
                      omega
                | succ j =>
                  have hi2 := hi.trans (show (Value.int .i64 (((j + 1 : Nat) : Int) - 1)) = .int .i64 (j : Int) by congr 1; omega)
                  subst hi2
                  clear hi
                  have hjl : j < l.length := by omega
                  have hjt : j < t1.args.length := by have := HH.out.2; omega
                  obtain ⟨b3, o3, cs3, rfl, hb3, hK3, hC3⟩ := (HK.out.1.chg hcq.out (fun q hq e => HGQ.out q hq.1 e)).get j hjl
                  obtain ⟨b4, o4, cs4, rfl, hb4, hK4, hC4⟩ := (HSt.out.chg hcq.out (fun q hq e => HGQ.out q hq.1.1 e)).get j hjt
                  have hC3' : Hid (CellsAt wr b3 (o3 + j * 2) cs3) := hC3
                  have hC4' : Hid (CellsAt wr b4 (o4 + j * 2) cs4) := hC4
                  have HK3' := Lib.hid hK3
                  have HK4' := Lib.hid hK4
                  have hlb : bp < wo.heap.size ∧ bt < wo.heap.size := ⟨l1, l2⟩
                  have r0 : wr.cell? ⟨wo.heap.size, 0, none⟩ = some (.pointer (some ⟨bp, op, none⟩)) := by rw [blk_cell hX.out]; rfl
                  have r1 : wr.cell? ⟨wo.heap.size, 1, none⟩ = some (.pointer (some ⟨bt, ot, none⟩)) := by rw [blk_cell hX.out]; rfl
                  have r2 : wr.cell? ⟨bp, op + 1, none⟩ = some (.slice (some ⟨b3, o3, none⟩) l.length cp) := (hcq.out.cell (p := ⟨bp, op + 1, none⟩) l1 (fun e => HGQ.out bp hbp.1 e)).trans b1
                  have r3 : wr.cell? ⟨bt, ot + 1, none⟩ = some (.slice (some ⟨b4, o4, none⟩) t1.args.length ct) := (hcq.out.cell (p := ⟨bt, ot + 1, none⟩) l2 (fun e => HGQ.out bt hbt.1.1 e)).trans d1
                  have lx : wo.heap.size < wr.heap.size := blk_lt hX.out
                  have HOW := Lib.hid (fun o => hO.out.below (below_drewN ((Below.refl wr.heap.size wr).alloc (Nat.le_refl _) o) 1))
                  have HYW : Hid (∀ o, (stepRd D1).K (fun k => Dq k ∧ (Value.slice A9 (rest.length + (l.length - (j + 1))) c9).ownBlock ≠ some k) (wr.alloc o).drew (l[j], t1.args[j]) [.pointer (some ⟨b3, o3 + j * 2, none⟩), .pointer (some ⟨b4, o4 + j * 2, none⟩)]) := fun o => by
                    have hbW : Below wr.heap.size wr (wr.alloc o).drew := ((Below.refl wr.heap.size wr).alloc (Nat.le_refl _) o).drew
                    have hne9 : ∀ q, Dq q → (Value.slice A9 (rest.length + (l.length - (j + 1))) c9).ownBlock ≠ some q := fun q hq e => by have := (hO.out.base q e).1; have := (hDq q hq).1; omega
                    refine ⟨[_], [_], rfl, ⟨b3, o3 + j * 2, cs3, rfl, ⟨hb3.1, hne9 _ hb3.1⟩, ?_, ?_⟩, ⟨b4, o4 + j * 2, cs4, rfl, ⟨⟨hb4.1.1, hne9 _ hb4.1.1⟩, hb4.2⟩, ?_, ?_⟩⟩
                    · exact Tm.rd.mono (fun q hq => ⟨hq.1, hne9 q hq.1⟩) (Rd.below (d := Tm.rd) HK3'.out hbW)
                    · exact hC3'.out.keep (hbW.block _ (hC3'.out.lt (by rw [Tm.rd.len HK3'.out]; decide)))
                    · exact Tm.rd.mono (fun q hq => ⟨⟨hq.1.1, hne9 q hq.1.1⟩, hq.2⟩) (Rd.below (d := Tm.rd) HK4'.out hbW)
                    · exact hC4'.out.keep (hbW.block _ (hC4'.out.lt (by rw [Tm.rd.len HK4'.out]; decide)))
                  have hdj : Hid ((l.zip t1.args).drop j = (l[j], t1.args[j]) :: (l.zip t1.args).drop (j + 1)) := by
                    show _ = _
                    rw [List.drop_eq_getElem_cons (by rw [List.length_zip]; omega), List.getElem_zip]
                  have hob' : Hid (∀ k, (Value.slice A9 (rest.length + (l.length - (j + 1))) c9).ownBlock = some k → k ≠ wo.heap.size ∧ k ≠ bp ∧ k ≠ bt) := fun k hk => by
                    rcases hob.out k hk with e | e
                    · have h1 := HGQ.out bp hbp.1
                      have h2 := HGQ.out bt hbt.1.1
                      exact ⟨by omega, fun e' => h1 (e' ▸ e), fun e' => h2 (e' ▸ e)⟩
                    · exact ⟨by omega, by omega, by omega⟩
                  clear hK3 hK4 hC3 hC4 hb3 hb4
                  go_wp2_with fail
                  go_region_held3 (fun w' => w'.cell? ⟨wo.heap.size, 0, none⟩ = some (.pointer (some ⟨bp, op, none⟩)) ∧ w'.cell? ⟨wo.heap.size, 1, none⟩ = some (.pointer (some ⟨bt, ot, none⟩)) ∧ w'.cell? ⟨bp, op + 1, none⟩ = some (.slice (some ⟨b3, o3, none⟩) l.length cp) ∧ w'.cell? ⟨bt, ot + 1, none⟩ = some (.slice (some ⟨b4, o4, none⟩) t1.args.length ct))
                    (first | (with_reducible exact ⟨y0, y1, y2, y3⟩) | go_keep)
                    ((refine Rd.step_own (stepRd D1) Dq 165 164 (.agg #[.pointer none, .pointer none]) S rfl _ _ rfl Tryd.underlying165 infoStep rfl (show 0 < 16 by decide) (.slice A9 (rest.length + (l.length - (j + 1))) c9) _ (rest.length + (l.length - (j + 1))) (by simp; have := HH.out.2; omega) (l[j], t1.args[j]) _ _ rfl rfl (show ((wr.alloc _).drew).heap[wr.heap.size]? = some _ from blk_alloc_new wr _) (HOW.out _) (HYW.out _) (by show (_ + 1) * 16 ≤ _; omega) (by simp; omega) ?_; intro g9 cap9 w9 hown9 hg9 hat9 hlt9; have y0 := (hg9.cell_far ⟨wo.heap.size, 0, none⟩ (by simp; omega) (fun e => (hob'.out _ e.symm).1 rfl)).trans (cell_new r0 _); have y1 := (hg9.cell_far ⟨wo.heap.size, 1, none⟩ (by simp; omega) (fun e => (hob'.out _ e.symm).1 rfl)).trans (cell_new r1 _); have y2 := (hg9.cell_far ⟨bp, op + 1, none⟩ (by simp; omega) (fun e => (hob'.out _ e.symm).2.1 rfl)).trans (cell_new r2 _); have y3 := (hg9.cell_far ⟨bt, ot + 1, none⟩ (by simp; omega) (fun e => (hob'.out _ e.symm).2.2 rfl)).trans (cell_new r3 _)))
                  go_wp2_with fail
                  go_roundw
                  case rel =>
                    have e9 : rest.length + (l.length - (j + 1)) + 1 = rest.length + (l.length - j) := by omega
                    rw [e9] at hown9 ⊢
                    refine ⟨j, some ⟨g9, 0, none⟩, cap9, by omega, rfl, rfl, ?_, ?_, ?_, ?_⟩
                    · rw [hdj.out, List.cons_append, List.reverse_cons]
                      exact hown9
                    · refine ((hcq.out.alloc _).drew).grown hg9 (fun q e hlt => ?_)
                      rcases hob.out q e with e' | e'
                      · exact e'
                      · omega
                    · exact (hg9.block _ (by simp; omega) (fun e => (hob'.out _ e.symm).1 rfl)).trans (blk_alloc hX.out _)
                    · intro q hq
                      simp only [Value.ownBlock, Option.some.injEq] at hq
                      subst hq
                      rcases hat9 with e | e
                      · exact hob.out _ e
                      · right; simp at e; omega
                  case measure => simp [intOf]
            · have q2 : (f != t1.hd) = false := by simpa using hh
              have q3 : (f == t1.hd) = true := by simpa using hh
              have q4 : (l.length != t1.args.length) = true := by simpa using hll
              have q5 : ((l.length : Int) != (t1.args.length : Int)) = true := by simp; omega
              have HH := Lib.hid (show ¬ (f = t1.hd ∧ l.length = t1.args.length) from fun h => hll h.2)
              clear hh hll
              go_wp2_with fail
              go_quiet (fail)
              go_wp2_with fail
              have hb6 : Hid (Below wr.heap.size wr ((wr.alloc (.cells #[.pointer (some ⟨bp, op, none⟩), .pointer (some ⟨bt, ot, none⟩)] 164)).drewN nq)) := below_drewN (hb7.out _) nq
              refine (back_any _ M' D1 bm σ' (List.length σ) HI.out.pre.2 (HI.out.st.below hb6.out)).mono ?_
              rintro e w6 ⟨rfl, hst6, hc6, hs6⟩
              have H6 := Lib.hid (And.intro hst6 (And.intro hc6 hs6))
              clear hst6 hc6 hs6
              go_wp2_with fail
              try rw [Exit.noGoto_ret]
              go_ret
              have hI' := HI.out
              rw [← hgo.out, HFI.out, if_neg HH.out]
              refine ⟨rfl, M', D1, ⟨fun k h => by rcases hI'.m k h with h | h; exact .inl h; exact .inr (by omega), hI'.m0, hD1, hD0, (hI'.chg.trans (Chg.of_below hb6.out M') (fun i hi hlt => by rcases hI'.m i hi with h | h; exact h; omega)).trans H6.out.2.1 (fun i hi hlt => by rcases hI'.m i hi with h | h; exact h; omega), ?_⟩⟩
              have := H6.out.1
              rw [hI'.pre.1] at this
              exact this
          · have q2 : (f != t1.hd) = true := by simpa using hh
            have q3 : (f == t1.hd) = false := by simpa using hh
            have HH := Lib.hid (show ¬ (f = t1.hd ∧ l.length = t1.args.length) from fun h => hh h.1)
            clear hh
            go_wp2_with fail
            go_quiet (fail)
            go_wp2_with fail
            have hb6 : Hid (Below wr.heap.size wr ((wr.alloc (.cells #[.pointer (some ⟨bp, op, none⟩), .pointer (some ⟨bt, ot, none⟩)] 164)).drewN nq)) := below_drewN (hb7.out _) nq
            refine (back_any _ M' D1 bm σ' (List.length σ) HI.out.pre.2 (HI.out.st.below hb6.out)).mono ?_
            rintro e w6 ⟨rfl, hst6, hc6, hs6⟩
            have H6 := Lib.hid (And.intro hst6 (And.intro hc6 hs6))
            clear hst6 hc6 hs6
            go_wp2_with fail
            try rw [Exit.noGoto_ret]
            go_ret
            have hI' := HI.out
            rw [← hgo.out, HFI.out, if_neg HH.out]
            refine ⟨rfl, M', D1, ⟨fun k h => by rcases hI'.m k h with h | h; exact .inl h; exact .inr (by omega), hI'.m0, hD1, hD0, (hI'.chg.trans (Chg.of_below hb6.out M') (fun i hi hlt => by rcases hI'.m i hi with h | h; exact h; omega)).trans H6.out.2.1 (fun i hi hlt => by rcases hI'.m i hi with h | h; exact h; omega), ?_⟩⟩
            have := H6.out.1
            rw [hI'.pre.1] at this
            exact this
end Go.Proofs.YtkgkdfhipgjobaaDoor
