import Derived.Test.YtgdppnijjhbgfaaWWords
import Derived.ChangeArms
import Derived.ChangeSlices
import Derived.WideShapes
/-! What a row's argument reads as: a value of a kind, all of whose numbers are in range. It speaks of no program. -/
namespace Go.Proofs.YtgdppnijjhbgfaaW.PrintWords
open Go.RowKit Go.ChangeShapes Go.WideShapes
set_option linter.unusedVariables false
namespace Kd
/-- Whatever reads as data of type t is of kind d. -/
def Opens {α : Type} (P : Program) (t : TypeId) (d : Kd α) (wf : α → Prop) (n : Nat) : Prop :=
  ∀ (H : Type) (enc : TypeId × Value → H) (w : World) (base : Nat) (spare : Nat → Bool) (held : Bool) (fuel : Nat) (cs : List Value) (x : DataW H × List MemPlace), fuel ≤ n → DataW.trod enc P w base spare held fuel t cs = some x → ∃ a, d.K w a cs ∧ wf a
theorem opens_le {α : Type} {P : Program} {t : TypeId} {d : Kd α} {wf : α → Prop} {n m : Nat} (h : Opens P t d wf n) (hm : m ≤ n) : Opens P t d wf m :=
  fun H enc w base spare held fuel cs x hf hx => h H enc w base spare held fuel cs x (Nat.le_trans hf hm) hx
theorem opens_int {P : Program} {t : TypeId} {k : IntKind} (ht : P.underlying t = some (.int k)) (n : Nat) : Opens P t (Kd.int k) (fun x => (Lit.int k x).wf = true) n := by
  intro H enc w base spare held fuel cs x hf hx
  obtain ⟨m, rfl, _, hw⟩ := DataW.trod_int ht hx
  exact ⟨m, rfl, hw⟩
theorem opens_bool {P : Program} {t : TypeId} (ht : P.underlying t = some .bool) (n : Nat) : Opens P t Kd.bool (fun _ => True) n := by
  intro H enc w base spare held fuel cs x hf hx
  obtain ⟨m, rfl, _⟩ := DataW.trod_bool ht hx
  exact ⟨m, rfl, trivial⟩
theorem opens_string {P : Program} {t : TypeId} (ht : P.underlying t = some .string) (n : Nat) : Opens P t Kd.string (fun s => s.size ≤ maxLen) n := by
  intro H enc w base spare held fuel cs x hf hx
  obtain ⟨m, rfl, _, hw⟩ := DataW.trod_string ht hx
  exact ⟨m, rfl, hw⟩
/-- A list out of what each place has. -/
theorem list_of {α : Type} (R : Nat → α → Prop) : ∀ n, (∀ i, i < n → ∃ a, R i a) → ∃ l : List α, l.length = n ∧ ∀ i a, l[i]? = some a → R i a
  | 0, _ => ⟨[], rfl, fun i a h => by simp at h⟩
  | n + 1, h => by
    obtain ⟨l, hl, hr⟩ := list_of R n (fun i hi => h i (by omega))
    obtain ⟨a, ha⟩ := h n (by omega)
    refine ⟨l ++ [a], by simp [hl], fun i b hb => ?_⟩
    by_cases hi : i < n
    · rw [List.getElem?_append_left (by omega)] at hb
      exact hr i b hb
    · have hi2 : i < n + 1 := by
        have := (List.getElem?_eq_some_iff.1 hb).1
        simp [hl] at this
        omega
      have : i = n := by omega
      subst this
      rw [← hl] at hb
      simp at hb
      exact hb ▸ ha
theorem cells_of {w : World} {base : Nat} {a : Addr} {n : Nat} {cs : List Value} (h : w.cells? base a n = some cs) : cs.length = n ∧ ∀ i u, cs[i]? = some u → w.cell? (a.add i) = some u := by
  obtain ⟨_, h1, h2⟩ := World.cells?_some h
  refine ⟨h1, fun i u hu => ?_⟩
  rw [h2 i (by have := (List.getElem?_eq_some_iff.1 hu).1; omega)]
  exact hu
theorem opens_slice {α : Type} {P : Program} {t e : TypeId} {d : Kd α} {wf : α → Prop} (ht : P.underlying t = some (.slice e)) (hc : P.cellsOf e = d.sz) {n : Nat} (h : Opens P e d wf n) : Opens P t (Kd.slice e d) (fun l => l.length ≤ maxLen ∧ ∀ x ∈ l, wf x) (n + 1) := by
  intro H enc w base spare held fuel cs x hf hx
  rcases DataW.trod_slice ht hx with ⟨rfl, _⟩ | ⟨a, len, cap, elems, rest, m, rfl, rfl, _, hb, hl, hm, hlen, hel, _, _⟩
  · exact ⟨[], ⟨none, 0, rfl, by simp, rfl, by simp, fun h => absurd h (by simp)⟩, by simp [maxLen], by simp⟩
  · have each : ∀ i, i < len → ∃ b, (∃ c, c.length = d.sz ∧ d.K w b c ∧ ∀ j u, c[j]? = some u → w.cell? (a.add (i * d.sz + j)) = some u) ∧ wf b := by
      intro i hi
      have h1 := hel i hi
      obtain ⟨y, hy⟩ : ∃ y, elems[i]? = some y := ⟨elems[i], List.getElem?_eq_getElem (by omega)⟩
      rw [hy, Option.bind_eq_some_iff] at h1
      obtain ⟨c, hc1, hc2⟩ := h1
      obtain ⟨b, hk, hw⟩ := h H enc w base spare held m c y (by omega) hc2
      obtain ⟨hcl, hcc⟩ := cells_of hc1
      refine ⟨b, ⟨c, by rw [hcl, hc], hk, fun j u hu => ?_⟩, hw⟩
      have h2 := hcc j u hu
      rw [PrintWords.add_add, hc] at h2
      exact h2
    obtain ⟨l, hll, hlr⟩ := list_of _ len each
    refine ⟨l, ⟨some a, cap, by rw [hll], by omega, rfl, ?_, fun _ => ⟨a, rfl, fun j p hj => (hlr j p hj).1⟩⟩, ?_, fun x hx => ?_⟩
    · rw [hll]; unfold maxLen at hm; omega
    · rw [hll]; omega
    · obtain ⟨i, hi⟩ := List.getElem?_of_mem hx
      exact (hlr i x hi).2
end Kd
end Go.Proofs.YtgdppnijjhbgfaaW.PrintWords
