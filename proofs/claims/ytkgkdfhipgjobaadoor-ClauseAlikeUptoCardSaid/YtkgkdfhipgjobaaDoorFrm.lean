/- What the search answers, within its bound: whether there is a way. No program in sight. -/
import Derived.Test.YtkgkdfhipgjobaaDoorAlk
namespace Go.Proofs.YtkgkdfhipgjobaaDoor
open Go.RowKit
set_option linter.unusedVariables false
set_option linter.unusedSimpArgs false

/-- There is a way to match the literals that are left. -/
def Good (b : List Lt) : List Lt → Sg → Sg → List Bool → Prop
  | [], _, _, _ => True
  | x :: xs, σ, τ, u => ∃ j, ∃ hj : j < b.length, u.getD j false = false ∧ ∃ y ∈ [b[j], b[j].turn], ∃ σ' τ', litF x y σ = some σ' ∧ litF y x τ = some τ' ∧ Good b xs σ' τ' (u.set j true)
/-- How many trials k open literals take at most. -/
def cost : Nat → Nat
  | 0 => 0
  | k + 1 => (k + 1) * (2 * (1 + cost k))

theorem tryL_else (go : Sg → Sg → List Bool → Nat → Bool × Nat) (x : Lt) (σ τ : Sg) (u : List Bool) (j : Nat) (y : Lt) (r : List Lt) (n : Nat) (hn : ¬ 10000 < n + 1) (h : ¬ ∃ σ' τ', litF x y σ = some σ' ∧ litF y x τ = some τ') : tryL go x σ τ u j (y :: r) n = tryL go x σ τ u j r (n + 1) := by
  rw [tryL_cons, if_neg hn]
  split
  · rename_i s t e1 e2; exact absurd ⟨s, t, e1, e2⟩ h
  · rfl
theorem tryL_yes (go : Sg → Sg → List Bool → Nat → Bool × Nat) (x : Lt) (σ τ : Sg) (u : List Bool) (j : Nat) (y : Lt) (r : List Lt) (n : Nat) (hn : ¬ 10000 < n + 1) {σ' τ' : Sg} (h1 : litF x y σ = some σ') (h2 : litF y x τ = some τ') {m : Nat} (hq : go σ' τ' (u.set j true) (n + 1) = (true, m)) : tryL go x σ τ u j (y :: r) n = (some (true, m), m) := by
  rw [tryL_cons, if_neg hn, h1, h2]
  simp [hq]
theorem tryL_no (go : Sg → Sg → List Bool → Nat → Bool × Nat) (x : Lt) (σ τ : Sg) (u : List Bool) (j : Nat) (y : Lt) (r : List Lt) (n : Nat) (hn : ¬ 10000 < n + 1) {σ' τ' : Sg} (h1 : litF x y σ = some σ') (h2 : litF y x τ = some τ') {m : Nat} (hq : go σ' τ' (u.set j true) (n + 1) = (false, m)) : tryL go x σ τ u j (y :: r) n = tryL go x σ τ u j r m := by
  rw [tryL_cons, if_neg hn, h1, h2]
  simp [hq]
/-- One literal's trials. -/
theorem tryL_good (go : Sg → Sg → List Bool → Nat → Bool × Nat) (G : Sg → Sg → Prop) (x : Lt) (σ τ : Sg) (u : List Bool) (j C : Nat)
    (hgo : ∀ σ' τ' n, n + C ≤ 10000 → ((go σ' τ' (u.set j true) n).1 = true ↔ G σ' τ') ∧ (go σ' τ' (u.set j true) n).2 ≤ n + C) :
    ∀ (l : List Lt) (n : Nat), n + l.length * (1 + C) ≤ 10000 →
      ((∃ y ∈ l, ∃ σ' τ', litF x y σ = some σ' ∧ litF y x τ = some τ' ∧ G σ' τ') ∧ (∃ m, tryL go x σ τ u j l n = (some (true, m), m) ∧ m ≤ n + l.length * (1 + C))) ∨
      ((¬ ∃ y ∈ l, ∃ σ' τ', litF x y σ = some σ' ∧ litF y x τ = some τ' ∧ G σ' τ') ∧ ∃ m, tryL go x σ τ u j l n = (none, m) ∧ m ≤ n + l.length * (1 + C))
  | [], n, hn => .inr ⟨by simp, n, by rw [tryL], by omega⟩
  | y :: r, n, hn => by
    have hlen : (y :: r).length * (1 + C) = r.length * (1 + C) + (1 + C) := by rw [List.length_cons, Nat.add_mul, Nat.one_mul]
    rw [hlen] at hn ⊢
    have hn1 : ¬ 10000 < n + 1 := by omega
    by_cases hboth : ∃ σ' τ', litF x y σ = some σ' ∧ litF y x τ = some τ'
    · obtain ⟨σ', τ', h1, h2⟩ := hboth
      obtain ⟨hg, hle⟩ := hgo σ' τ' (n + 1) (by omega)
      cases hq : go σ' τ' (u.set j true) (n + 1) with
      | mk bv m =>
        rw [hq] at hg hle
        cases bv with
        | true => exact .inl ⟨⟨y, by simp, σ', τ', h1, h2, hg.1 rfl⟩, m, tryL_yes go x σ τ u j y r n hn1 h1 h2 hq, by simp only at hle; omega⟩
        | false =>
          have hng : ¬ G σ' τ' := fun h => by have := hg.2 h; simp at this
          have hle' : m ≤ n + 1 + C := hle
          have ih := tryL_good go G x σ τ u j C hgo r m (by omega)
          have hiff : (∃ z ∈ y :: r, ∃ σ' τ', litF x z σ = some σ' ∧ litF z x τ = some τ' ∧ G σ' τ') ↔ ∃ z ∈ r, ∃ σ' τ', litF x z σ = some σ' ∧ litF z x τ = some τ' ∧ G σ' τ' := by
            constructor
            · rintro ⟨z, hz, s', t', e1, e2, e3⟩
              rcases List.mem_cons.1 hz with rfl | hz
              · rw [h1] at e1; rw [h2] at e2
                obtain rfl := Option.some.inj e1
                obtain rfl := Option.some.inj e2
                exact absurd e3 hng
              · exact ⟨z, hz, s', t', e1, e2, e3⟩
            · rintro ⟨z, hz, h⟩; exact ⟨z, List.mem_cons_of_mem _ hz, h⟩
          rw [tryL_no go x σ τ u j y r n hn1 h1 h2 hq]
          rcases ih with ⟨e, m', hm, hm'⟩ | ⟨e, m', hm, hm'⟩
          · exact .inl ⟨hiff.2 e, m', hm, by omega⟩
          · exact .inr ⟨fun h => e (hiff.1 h), m', hm, by omega⟩
    · have ih := tryL_good go G x σ τ u j C hgo r (n + 1) (by omega)
      have hiff : (∃ z ∈ y :: r, ∃ σ' τ', litF x z σ = some σ' ∧ litF z x τ = some τ' ∧ G σ' τ') ↔ ∃ z ∈ r, ∃ σ' τ', litF x z σ = some σ' ∧ litF z x τ = some τ' ∧ G σ' τ' := by
        constructor
        · rintro ⟨z, hz, s', t', e1, e2, e3⟩
          rcases List.mem_cons.1 hz with rfl | hz
          · exact absurd ⟨s', t', e1, e2⟩ hboth
          · exact ⟨z, hz, s', t', e1, e2, e3⟩
        · rintro ⟨z, hz, h⟩; exact ⟨z, List.mem_cons_of_mem _ hz, h⟩
      rw [tryL_else go x σ τ u j y r n hn1 hboth]
      rcases ih with ⟨e, m', hm, hm'⟩ | ⟨e, m', hm, hm'⟩
      · exact .inl ⟨hiff.2 e, m', hm, by omega⟩
      · exact .inr ⟨fun h => e (hiff.1 h), m', hm, by omega⟩
def opn (u : List Bool) : List Lt → Nat → Nat
  | [], _ => 0
  | _ :: r, j => (if u.getD j false then 0 else 1) + opn u r (j + 1)
theorem opn_count (u : List Bool) : ∀ (l : List Lt) (j : Nat), u.length = j + l.length → opn u l j = (u.drop j).count false
  | [], j, h => by rw [opn, List.drop_of_length_le (by simp at h; omega)]; rfl
  | y :: r, j, h => by
    simp only [List.length_cons] at h
    have hj : j < u.length := by omega
    rw [opn, opn_count u r (j + 1) (by omega), List.drop_eq_getElem_cons hj, List.count_cons]
    have : u.getD j false = u[j] := by simp [List.getD, hj]
    rw [this]
    cases u[j] <;> simp <;> omega
theorem tryJ_good (go : Sg → Sg → List Bool → Nat → Bool × Nat) (G : Nat → Sg → Sg → Prop) (x : Lt) (σ τ : Sg) (u : List Bool) (C : Nat)
    (hgo : ∀ j, j < u.length → u.getD j false = false → ∀ σ' τ' n, n + C ≤ 10000 → ((go σ' τ' (u.set j true) n).1 = true ↔ G j σ' τ') ∧ (go σ' τ' (u.set j true) n).2 ≤ n + C) :
    ∀ (l : List Lt) (j n : Nat), j + l.length = u.length → n + opn u l j * (2 * (1 + C)) ≤ 10000 →
      ((tryJ go x σ τ u l j n).1 = true ↔ ∃ i, ∃ hi : i < l.length, u.getD (j + i) false = false ∧ ∃ y ∈ [l[i], l[i].turn], ∃ σ' τ', litF x y σ = some σ' ∧ litF y x τ = some τ' ∧ G (j + i) σ' τ') ∧ (tryJ go x σ τ u l j n).2 ≤ n + opn u l j * (2 * (1 + C))
  | [], j, n, hl, hn => by rw [tryJ]; simp
  | y :: r, j, n, hl, hn => by
    simp only [List.length_cons] at hl
    rw [opn] at hn ⊢
    rw [tryJ_cons]
    have hex : ∀ P : Nat → Lt → Prop, (∃ i, ∃ hi : i < (y :: r).length, P (j + i) (y :: r)[i]) ↔ P j y ∨ ∃ i, ∃ hi : i < r.length, P (j + 1 + i) r[i] := by
      intro P
      constructor
      · rintro ⟨i, hi, h⟩
        cases i with
        | zero => exact .inl h
        | succ i => exact .inr ⟨i, by simpa using hi, by rw [show j + 1 + i = j + (i + 1) from by omega]; exact h⟩
      · rintro (h | ⟨i, hi, h⟩)
        · exact ⟨0, by simp, h⟩
        · exact ⟨i + 1, by simpa using hi, by rw [show j + (i + 1) = j + 1 + i from by omega]; exact h⟩
    have hex' := hex (fun i z => u.getD i false = false ∧ ∃ y ∈ [z, z.turn], ∃ σ' τ', litF x y σ = some σ' ∧ litF y x τ = some τ' ∧ G i σ' τ')
    rw [hex']
    cases huj : u.getD j false with
    | true =>
      rw [huj, if_pos rfl, Nat.zero_add] at hn
      rw [if_pos rfl, if_pos rfl, Nat.zero_add]
      obtain ⟨h1, h2⟩ := tryJ_good go G x σ τ u C hgo r (j + 1) n (by omega) hn
      exact ⟨by rw [h1]; simp, h2⟩
    | false =>
      rw [huj, if_neg (by simp), Nat.add_mul, Nat.one_mul] at hn
      rw [if_neg (by simp), if_neg (by simp), Nat.add_mul, Nat.one_mul]
      have hL := tryL_good go (G j) x σ τ u j C (hgo j (by omega) huj) [y, y.turn] n (by simp only [List.length_cons, List.length_nil]; omega)
      simp only [List.length_cons, List.length_nil] at hL
      rcases hL with ⟨e, m, hm, hm'⟩ | ⟨e, m, hm, hm'⟩
      · rw [hm]
        exact ⟨⟨fun _ => .inl ⟨rfl, e⟩, fun _ => rfl⟩, by show m ≤ _; omega⟩
      · rw [hm]
        obtain ⟨h1, h2⟩ := tryJ_good go G x σ τ u C hgo r (j + 1) m (by omega) (by omega)
        refine ⟨?_, by show (tryJ go x σ τ u r (j + 1) m).2 ≤ _; omega⟩
        show (tryJ go x σ τ u r (j + 1) m).1 = true ↔ _
        rw [h1]
        exact ⟨.inr, fun h => h.resolve_left (fun h => e h.2)⟩
theorem frm_good (b : List Lt) : ∀ (l : List Lt) (σ τ : Sg) (u : List Bool) (n : Nat), u.length = b.length → u.count false = l.length → n + cost l.length ≤ 10000 →
    ((frm b l σ τ u n).1 = true ↔ Good b l σ τ u) ∧ (frm b l σ τ u n).2 ≤ n + cost l.length
  | [], σ, τ, u, n, hu, hc, hn => by rw [frm, Good]; simp
  | x :: xs, σ, τ, u, n, hu, hc, hn => by
    rw [frm, Good]
    have ho : opn u b 0 = xs.length + 1 := by rw [opn_count u b 0 (by omega), List.drop_zero, hc]; rfl
    have h := tryJ_good (frm b xs) (fun j σ' τ' => Good b xs σ' τ' (u.set j true)) x σ τ u (cost xs.length) (fun j hj huj σ' τ' m hm => frm_good b xs σ' τ' (u.set j true) m (by simpa using hu) (by
      have h1 : u[j] = false := by simpa [List.getD, hj] using huj
      rw [List.count_set hj, hc, h1]; simp) hm) b 0 n (by omega) (by rw [ho]; exact hn)
    rw [ho] at h
    refine ⟨?_, h.2⟩
    rw [h.1]
    simp only [Nat.zero_add]
end Go.Proofs.YtkgkdfhipgjobaaDoor
