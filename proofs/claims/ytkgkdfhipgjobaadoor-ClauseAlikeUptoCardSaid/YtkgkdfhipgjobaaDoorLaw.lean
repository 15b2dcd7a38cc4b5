/- A clause is alike with itself turned about: the plain law. No program in sight. -/
import Derived.Test.YtkgkdfhipgjobaaDoorFrm
namespace Go.Proofs.YtkgkdfhipgjobaaDoor
open Go.RowKit
set_option linter.unusedVariables false
set_option linter.unusedSimpArgs false

/-- What is bound is so by the renaming. -/
def Con (ρ : Int → Int) (σ : Sg) : Prop := ∀ p ∈ σ, p.2 = Tm.mk (-1 - ρ p.1) []
def Noc (V : Int → Prop) (ρ : Int → Int) (τ : Sg) : Prop := ∀ p ∈ τ, ∃ v, V v ∧ p.1 = ρ v ∧ p.2 = Tm.mk (-1 - v) []
def vars (V : Int → Prop) (f : Int) : Prop := f < 0 → V (-1 - f)
theorem lookS_mem {v : Int} {σ : Sg} {u : Tm} (h : lookS v σ = some u) : (v, u) ∈ σ := by
  obtain ⟨i, hi, e, _⟩ := lookS_get h
  rw [← e]
  exact List.getElem_mem hi
theorem plains_iff : ∀ l : List Tm, Tm.plains l = true ↔ ∀ t ∈ l, t.plain = true
  | [] => by simp [Tm.plains]
  | t :: r => by
    rw [Tm.plains]
    cases h : t.plain <;> simp [h, plains_iff r]
theorem mt_ren (V : Int → Prop) (ρ : Int → Int) : ∀ t : Tm, t.plain = true → t.AllH (vars V) → ∀ σ, Con ρ σ → ∃ σ', t.mt (t.ren ρ) σ = some σ' ∧ Con ρ σ' := by
  intro t
  induction t using Tm.ind with
  | h f l ih =>
    intro hp hv σ hc
    rw [Tm.plain_mk] at hp
    rw [Tm.AllH_mk] at hv
    rw [Tm.mt_mk, Tm.ren_mk]
    by_cases hf : f < 0
    · have hl : l = [] := by
        cases l with
        | nil => rfl
        | cons t r => simp [hf] at hp
      subst hl
      rw [if_pos hf, if_pos hf]
      cases hk : lookS (-1 - f) σ with
      | none =>
        refine ⟨_, rfl, fun p hp => ?_⟩
        rcases List.mem_append.1 hp with h | h
        · exact hc p h
        · obtain rfl := List.mem_singleton.1 h
          rfl
      | some u =>
        have hu := hc _ (lookS_mem hk)
        simp only at hu
        refine ⟨σ, ?_, hc⟩
        simp only [List.map_nil]
        rw [if_pos ((Tm.same_iff _ _).2 hu)]
    · rw [if_neg hf, if_neg hf]
      have hp' : Tm.plains l = true := by simpa [hf] using hp
      rw [if_pos ⟨rfl, by simp [Tm.args]⟩]
      show ∃ σ', Tm.mts l (l.map (Tm.ren ρ)) σ = some σ' ∧ Con ρ σ'
      have key : ∀ (l : List Tm) (σ : Sg), (∀ t ∈ l, ∀ σ, Con ρ σ → ∃ σ', t.mt (t.ren ρ) σ = some σ' ∧ Con ρ σ') → Con ρ σ → ∃ σ', Tm.mts l (l.map (Tm.ren ρ)) σ = some σ' ∧ Con ρ σ' := by
        intro l
        induction l with
        | nil => intro σ _ hc; exact ⟨σ, by simp [Tm.mts], hc⟩
        | cons t r ihr =>
          intro σ hi hc
          obtain ⟨σ1, h1, c1⟩ := hi t (by simp) σ hc
          obtain ⟨σ2, h2, c2⟩ := ihr σ1 (fun t ht => hi t (by simp [ht])) c1
          exact ⟨σ2, by rw [List.map_cons, Tm.mts, h1]; exact h2, c2⟩
      exact key l σ (fun t ht => ih t ht ((plains_iff l).1 hp' t ht) ((Tm.AllL_iff _ l).1 hv.2 t ht)) hc
theorem mt_ner (V : Int → Prop) (ρ : Int → Int) (h0 : ∀ v, V v → 0 ≤ ρ v) (hi : ∀ v v', V v → V v' → ρ v = ρ v' → v = v') : ∀ t : Tm, t.plain = true → t.AllH (vars V) → ∀ τ, Noc V ρ τ → ∃ τ', (t.ren ρ).mt t τ = some τ' ∧ Noc V ρ τ' := by
  intro t
  induction t using Tm.ind with
  | h f l ih =>
    intro hp hv τ hc
    rw [Tm.plain_mk] at hp
    rw [Tm.AllH_mk] at hv
    rw [Tm.ren_mk, Tm.mt_mk]
    by_cases hf : f < 0
    · have hl : l = [] := by
        cases l with
        | nil => rfl
        | cons t r => simp [hf] at hp
      subst hl
      have hV := hv.1 hf
      have := h0 _ hV
      rw [if_pos hf, if_pos (by omega), show -1 - (-1 - ρ (-1 - f)) = ρ (-1 - f) from by omega]
      cases hk : lookS (ρ (-1 - f)) τ with
      | none =>
        refine ⟨_, rfl, fun p hp => ?_⟩
        rcases List.mem_append.1 hp with h | h
        · exact hc p h
        · obtain rfl := List.mem_singleton.1 h
          exact ⟨-1 - f, hV, rfl, by rw [show -1 - (-1 - f) = f from by omega]⟩
      | some u =>
        obtain ⟨v, hVv, e1, e2⟩ := hc _ (lookS_mem hk)
        simp only at e1 e2
        have := hi _ _ hV hVv e1
        refine ⟨τ, ?_, hc⟩
        simp only
        rw [if_pos ((Tm.same_iff _ _).2 (by rw [e2, ← this, show -1 - (-1 - f) = f from by omega]))]
    · rw [if_neg hf, if_neg hf]
      have hp' : Tm.plains l = true := by simpa [hf] using hp
      rw [if_pos ⟨rfl, by simp [Tm.args]⟩]
      show ∃ τ', Tm.mts (l.map (Tm.ren ρ)) l τ = some τ' ∧ Noc V ρ τ'
      have key : ∀ (l : List Tm) (τ : Sg), (∀ t ∈ l, ∀ τ, Noc V ρ τ → ∃ τ', (t.ren ρ).mt t τ = some τ' ∧ Noc V ρ τ') → Noc V ρ τ → ∃ τ', Tm.mts (l.map (Tm.ren ρ)) l τ = some τ' ∧ Noc V ρ τ' := by
        intro l
        induction l with
        | nil => intro τ _ hc; exact ⟨τ, by simp [Tm.mts], hc⟩
        | cons t r ihr =>
          intro τ hi hc
          obtain ⟨σ1, h1, c1⟩ := hi t (by simp) τ hc
          obtain ⟨σ2, h2, c2⟩ := ihr σ1 (fun t ht => hi t (by simp [ht])) c1
          exact ⟨σ2, by rw [List.map_cons, Tm.mts, h1]; exact h2, c2⟩
      exact key l τ (fun t ht => ih t ht ((plains_iff l).1 hp' t ht) ((Tm.AllL_iff _ l).1 hv.2 t ht)) hc
theorem ren_plain (V : Int → Prop) (ρ : Int → Int) (h0 : ∀ v, V v → 0 ≤ ρ v) : ∀ t : Tm, t.plain = true → t.AllH (vars V) → (t.ren ρ).plain = true := by
  intro t
  induction t using Tm.ind with
  | h f l ih =>
    intro hp hv
    rw [Tm.plain_mk] at hp
    rw [Tm.AllH_mk] at hv
    rw [Tm.ren_mk, Tm.plain_mk]
    by_cases hf : f < 0
    · have hl : l = [] := by
        cases l with
        | nil => rfl
        | cons t r => simp [hf] at hp
      subst hl
      simp [Tm.plains]
    · have hp' : Tm.plains l = true := by simpa [hf] using hp
      rw [if_neg hf, if_neg (by omega)]
      refine (plains_iff _).2 (fun t ht => ?_)
      obtain ⟨s, hs, rfl⟩ := List.mem_map.1 ht
      exact ih s hs ((plains_iff l).1 hp' s hs) ((Tm.AllL_iff _ l).1 hv.2 s hs)
theorem ren_true (V : Int → Prop) (ρ : Int → Int) (h0 : ∀ v, V v → 0 ≤ ρ v) (t : Tm) (hv : t.AllH (vars V)) : (t.ren ρ).isTrue = t.isTrue := by
  cases t with
  | mk f l =>
    rw [Tm.AllH_mk] at hv
    rw [Tm.ren_mk]
    simp only [Tm.isTrue, Tm.hd, Tm.args, List.length_map]
    by_cases hf : f < 0
    · have := h0 _ (hv.1 hf)
      rw [if_pos hf, show (-1 - ρ (-1 - f) == 0) = false from by simp; omega, show (f == 0) = false from by simp; omega]
    · rw [if_neg hf]
def Lt.ren (ρ : Int → Int) (x : Lt) : Lt := ⟨x.neg, x.l.ren ρ, x.r.ren ρ⟩
/-- A literal that may be. -/
def Lt.ok (V : Int → Prop) (x : Lt) : Prop := (x.l.plain = true ∧ x.l.AllH (vars V)) ∧ x.r.plain = true ∧ x.r.AllH (vars V)
theorem lit_ren (V : Int → Prop) (ρ : Int → Int) (h0 : ∀ v, V v → 0 ≤ ρ v) (x : Lt) (hx : x.ok V) (σ : Sg) (hc : Con ρ σ) : ∃ σ', litF x (x.ren ρ) σ = some σ' ∧ Con ρ σ' := by
  obtain ⟨⟨p1, v1⟩, p2, v2⟩ := hx
  have ha : x.atom = (x.ren ρ).atom := by simp [Lt.atom, Lt.ren, ren_true V ρ h0 _ v1, ren_true V ρ h0 _ v2]
  obtain ⟨σ1, e1, c1⟩ := mt_ren V ρ x.l p1 v1 σ hc
  obtain ⟨σ2, e2, c2⟩ := mt_ren V ρ x.r p2 v2 σ1 c1
  refine ⟨σ2, ?_, c2⟩
  rw [litF, if_pos ⟨rfl, ha⟩]
  show (termF x.l (x.l.ren ρ) σ).bind (termF x.r (x.r.ren ρ)) = _
  rw [termF, p1, ren_plain V ρ h0 _ p1 v1]
  simp only [Bool.and_self, if_true]
  rw [e1]
  show termF x.r (x.r.ren ρ) σ1 = _
  rw [termF, p2, ren_plain V ρ h0 _ p2 v2]
  simpa using e2
theorem lit_ner (V : Int → Prop) (ρ : Int → Int) (h0 : ∀ v, V v → 0 ≤ ρ v) (hi : ∀ v v', V v → V v' → ρ v = ρ v' → v = v') (x : Lt) (hx : x.ok V) (τ : Sg) (hc : Noc V ρ τ) : ∃ τ', litF (x.ren ρ) x τ = some τ' ∧ Noc V ρ τ' := by
  obtain ⟨⟨p1, v1⟩, p2, v2⟩ := hx
  have ha : (x.ren ρ).atom = x.atom := by simp [Lt.atom, Lt.ren, ren_true V ρ h0 _ v1, ren_true V ρ h0 _ v2]
  obtain ⟨σ1, e1, c1⟩ := mt_ner V ρ h0 hi x.l p1 v1 τ hc
  obtain ⟨σ2, e2, c2⟩ := mt_ner V ρ h0 hi x.r p2 v2 σ1 c1
  refine ⟨σ2, ?_, c2⟩
  rw [litF, if_pos ⟨rfl, ha⟩]
  show (termF (x.l.ren ρ) x.l τ).bind (termF (x.r.ren ρ) x.r) = _
  rw [termF, p1, ren_plain V ρ h0 _ p1 v1]
  simp only [Bool.and_self, if_true]
  rw [e1]
  show termF (x.r.ren ρ) x.r σ1 = _
  rw [termF, p2, ren_plain V ρ h0 _ p2 v2]
  simpa using e2
/-- Two literals that match each other, one way or turned, under what A and B say of the bindings. -/
def Pair (A B : Sg → Prop) (x z : Lt) : Prop := ∃ y ∈ [z, z.turn], ∀ σ τ, A σ → B τ → ∃ σ' τ', litF x y σ = some σ' ∧ litF y x τ = some τ' ∧ A σ' ∧ B τ'
theorem good_of (A B : Sg → Prop) (d : List Lt) : ∀ (xs : List Lt) (js : List Nat) (σ τ : Sg) (u : List Bool), js.length = xs.length → js.Nodup → (∀ j ∈ js, j < d.length ∧ u.getD j false = false) →
    (∀ k (hk : k < xs.length) (hk' : k < js.length) (hj : js[k] < d.length), Pair A B xs[k] d[js[k]]) → u.length = d.length → A σ → B τ → Good d xs σ τ u
  | [], js, σ, τ, u, _, _, _, _, _, _, _ => by rw [Good]; trivial
  | x :: xs, [], σ, τ, u, h, _, _, _, _, _, _ => by simp at h
  | x :: xs, j :: js, σ, τ, u, hl, hnd, hj, hp, hu, hA, hB => by
    rw [Good]
    have hj0 := hj j (by simp)
    obtain ⟨y, hy, hall⟩ := hp 0 (by simp) (by simp) hj0.1
    obtain ⟨σ', τ', h1, h2, hA', hB'⟩ := hall σ τ hA hB
    refine ⟨j, hj0.1, hj0.2, y, hy, σ', τ', h1, h2, ?_⟩
    have hnd' := List.nodup_cons.1 hnd
    refine good_of A B d xs js σ' τ' (u.set j true) (by simpa using hl) hnd'.2 (fun i hi => ⟨(hj i (by simp [hi])).1, ?_⟩) (fun k hk hk' hj' => hp (k + 1) (by simpa using hk) (by simpa using hk') hj') (by simpa using hu) hA' hB'
    have h := (hj i (by simp [hi])).2
    have hne : j ≠ i := fun e => hnd'.1 (e ▸ hi)
    simp only [List.getD, List.getElem?_set_ne hne] at h ⊢
    exact h
theorem alikeF_of (A B : Sg → Prop) (hA : A []) (hB : B []) (c d : List Lt) (hc : c.length ≤ 5) (hl : c.length = d.length) (js : List Nat) (h1 : js.length = c.length) (h2 : js.Nodup) (h3 : ∀ j ∈ js, j < d.length)
    (h4 : ∀ k (hk : k < c.length) (hk' : k < js.length) (hj : js[k] < d.length), Pair A B c[k] d[js[k]]) : alikeF c d = true := by
  have hcost : cost c.length ≤ 10000 := by
    have : c.length = 0 ∨ c.length = 1 ∨ c.length = 2 ∨ c.length = 3 ∨ c.length = 4 ∨ c.length = 5 := by omega
    rcases this with h | h | h | h | h | h <;> rw [h] <;> decide
  have hg : ∀ j, (List.replicate d.length false).getD j false = false := fun j => by
    simp only [List.getD, List.getElem?_replicate]
    split <;> rfl
  have hG := good_of A B d c js [] [] (List.replicate d.length false) h1 h2 (fun j hj => ⟨h3 j hj, hg j⟩) h4 (by simp) hA hB
  have hf := (frm_good d c [] [] (List.replicate d.length false) 0 (by simp) (by rw [List.count_replicate_self, hl]) (by omega)).1.2 hG
  simp [alikeF, hl, hf]
theorem turn_turn (x : Lt) : x.turn.turn = x := rfl
theorem ren_turn (ρ : Int → Int) (x : Lt) : (x.ren ρ).turn = x.turn.ren ρ := rfl
theorem ok_turn {V : Int → Prop} {x : Lt} (h : x.ok V) : x.turn.ok V := ⟨h.2, h.1⟩
/-- One literal and its image, turned or not. -/
theorem pair_there (V : Int → Prop) (ρ : Int → Int) (h0 : ∀ v, V v → 0 ≤ ρ v) (hi : ∀ v v', V v → V v' → ρ v = ρ v' → v = v') (x z : Lt) (hx : x.ok V) (hz : z = x.ren ρ ∨ z = (x.ren ρ).turn) : Pair (Con ρ) (Noc V ρ) x z := by
  refine ⟨x.ren ρ, ?_, fun σ τ hσ hτ => ?_⟩
  · rcases hz with rfl | rfl
    · simp
    · simp [turn_turn]
  · obtain ⟨σ', e1, c1⟩ := lit_ren V ρ h0 x hx σ hσ
    obtain ⟨τ', e2, c2⟩ := lit_ner V ρ h0 hi x hx τ hτ
    exact ⟨σ', τ', e1, e2, c1, c2⟩
theorem pair_back (V : Int → Prop) (ρ : Int → Int) (h0 : ∀ v, V v → 0 ≤ ρ v) (hi : ∀ v v', V v → V v' → ρ v = ρ v' → v = v') (x z : Lt) (hx : x.ok V) (hz : z = x.ren ρ ∨ z = (x.ren ρ).turn) : Pair (Noc V ρ) (Con ρ) z x := by
  rcases hz with rfl | rfl
  · refine ⟨x, by simp, fun σ τ hσ hτ => ?_⟩
    obtain ⟨σ', e1, c1⟩ := lit_ner V ρ h0 hi x hx σ hσ
    obtain ⟨τ', e2, c2⟩ := lit_ren V ρ h0 x hx τ hτ
    exact ⟨σ', τ', e1, e2, c1, c2⟩
  · refine ⟨x.turn, by simp, fun σ τ hσ hτ => ?_⟩
    obtain ⟨σ', e1, c1⟩ := lit_ner V ρ h0 hi x.turn (ok_turn hx) σ hσ
    obtain ⟨τ', e2, c2⟩ := lit_ren V ρ h0 x.turn (ok_turn hx) τ hτ
    exact ⟨σ', τ', by rw [ren_turn]; exact e1, by rw [ren_turn]; exact e2, c1, c2⟩
/-- d is c with other names, sides turned, and in another order. -/
structure About (ρ : Int → Int) (c d : List Lt) : Prop where
  len : c.length = d.length
  ex : ∃ π π' : Nat → Nat, (∀ k, k < c.length → π k < c.length ∧ π' (π k) = k) ∧ (∀ j, j < c.length → π' j < c.length ∧ π (π' j) = j) ∧ ∀ k (hk : k < c.length) (hj : π k < d.length), d[π k] = c[k].ren ρ ∨ d[π k] = (c[k].ren ρ).turn
theorem range_map_nodup (π π' : Nat → Nat) (n : Nat) (h : ∀ k, k < n → π' (π k) = k) : ((List.range n).map π).Nodup := by
  refine List.pairwise_map.2 (List.Pairwise.imp_of_mem ?_ List.nodup_range)
  intro i j hi hj hne e
  have h1 := h i (List.mem_range.1 hi)
  have h2 := h j (List.mem_range.1 hj)
  rw [e] at h1
  exact hne (h1.symm.trans h2)
theorem about_alike (V : Int → Prop) (ρ : Int → Int) (h0 : ∀ v, V v → 0 ≤ ρ v) (hi : ∀ v v', V v → V v' → ρ v = ρ v' → v = v') (c d : List Lt) (hc : c.length ≤ 5) (hok : ∀ x ∈ c, x.ok V) (h : About ρ c d) : alikeF c d = true ∧ alikeF d c = true := by
  obtain ⟨π, π', p1, p2, hr⟩ := h.ex
  have hl := h.len
  constructor
  · refine alikeF_of (Con ρ) (Noc V ρ) (fun _ h => by simp at h) (fun _ h => by simp at h) c d hc hl ((List.range c.length).map π) (by simp) (range_map_nodup π π' _ (fun k hk => (p1 k hk).2)) (fun j hj => ?_) (fun k hk hk' hj => ?_)
    · obtain ⟨k, hk, rfl⟩ := List.mem_map.1 hj
      rw [← hl]; exact (p1 k (List.mem_range.1 hk)).1
    · simp only [List.getElem_map, List.getElem_range] at hj ⊢
      exact pair_there V ρ h0 hi _ _ (hok _ (List.getElem_mem hk)) (hr k hk hj)
  · refine alikeF_of (Noc V ρ) (Con ρ) (fun _ h => by simp at h) (fun _ h => by simp at h) d c (by omega) hl.symm ((List.range c.length).map π') (by simp [hl]) (range_map_nodup π' π _ (fun k hk => (p2 k hk).2)) (fun j hj => ?_) (fun k hk hk' hj => ?_)
    · obtain ⟨k, hk, rfl⟩ := List.mem_map.1 hj
      exact (p2 k (List.mem_range.1 hk)).1
    · simp only [List.getElem_map, List.getElem_range] at hj ⊢
      have hk2 : k < c.length := by omega
      have e := (p2 k hk2).2
      have hrel := hr (π' k) hj (by rw [e]; exact hk)
      refine pair_back V ρ h0 hi _ _ (hok _ (List.getElem_mem hj)) ?_
      simp only [e] at hrel
      exact hrel
def sw (a b k : Nat) : Nat := if k = a then b else if k = b then a else k
theorem sw_sw (a b k : Nat) : sw a b (sw a b k) = k := by unfold sw; split <;> split <;> (try split) <;> omega
theorem sw_lt {a b k n : Nat} (ha : a < n) (hb : b < n) (hk : k < n) : sw a b k < n := by unfold sw; split <;> (try split) <;> omega
theorem sw_get (d : List Lt) (a b : Nat) (ha : a < d.length) (hb : b < d.length) (i : Nat) (hi : i < d.length) (h' : sw a b i < ((d.set a d[b]).set b d[a]).length) : ((d.set a d[b]).set b d[a])[sw a b i] = d[i] := by
  rw [List.getElem_set, List.getElem_set]
  unfold sw
  split <;> split <;> (try split) <;> (try split) <;> simp_all <;> omega
theorem about_swap {ρ : Int → Int} {c d : List Lt} (h : About ρ c d) (a b : Nat) (ha : a < d.length) (hb : b < d.length) : About ρ c ((d.set a d[b]).set b d[a]) := by
  obtain ⟨π, π', p1, p2, hr⟩ := h.ex
  have hl := h.len
  refine ⟨by simp [hl], fun k => sw a b (π k), fun j => π' (sw a b j), fun k hk => ⟨sw_lt (by omega) (by omega) (p1 k hk).1, by dsimp only; rw [sw_sw]; exact (p1 k hk).2⟩, fun j hj => ⟨(p2 _ (sw_lt (by omega) (by omega) hj)).1, by dsimp only; rw [(p2 _ (sw_lt (by omega) (by omega) hj)).2, sw_sw]⟩, fun k hk hj => ?_⟩
  rw [sw_get d a b ha hb (π k) (by have := (p1 k hk).1; omega)]
  exact hr k hk _
theorem about_start {ρ : Int → Int} {c d : List Lt} (hl : c.length = d.length) (h : ∀ k (hk : k < c.length) (hj : k < d.length), d[k] = c[k].ren ρ ∨ d[k] = (c[k].ren ρ).turn) : About ρ c d :=
  ⟨hl, fun k => k, fun k => k, fun k hk => ⟨hk, rfl⟩, fun k hk => ⟨hk, rfl⟩, h⟩
end Go.Proofs.YtkgkdfhipgjobaaDoor
