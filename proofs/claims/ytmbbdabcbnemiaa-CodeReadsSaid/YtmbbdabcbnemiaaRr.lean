import Derived.Test.YtmbbdabcbnemiaaLw
import Derived.Test.YtmbbdabcbnemiaaRq
/-! What a row's argument of bytes, and of steps, reads as. -/
namespace Go.Proofs.Ytmbbdabcbnemiaa
open Go.Proofs.Ytmbbdabcbnemiaa.Tw Go.RowKit
theorem opens_mapW {α β : Type} {P : Program} {t : TypeId} {v : α → AV} {wf : α → Prop} {n : Nat} (u : β → AV) (wg : β → Prop) (g : α → β) (hg : ∀ a, wf a → u (g a) = v a) (hw : ∀ a, wf a → wg (g a)) (h : Tw.Opens P t v wf n) : Tw.Opens P t u wg n := by
  intro H enc w base spare held fuel cs x hf hx
  obtain ⟨a, ha, hwa⟩ := h H enc w base spare held fuel cs x hf hx
  exact ⟨g a, by rw [hg a hwa]; exact ha, hw a hwa⟩
theorem opens_byte (n : Nat) : Tw.Opens Try.prog 5 (fun b : UInt8 => .int .u8 b.toNat) (fun _ => True) n :=
  opens_mapW _ _ (fun i : Int => UInt8.ofNat i.toNat) (fun i hi => by
    have h : 0 ≤ i ∧ i < 256 := by
      simp [Lit.wf] at hi
      exact ⟨hi.1, by have h2 : i ≤ 255 := hi.2; omega⟩
    show AV.int .u8 ((UInt8.ofNat i.toNat).toNat : Int) = _
    rw [byte_ofInt h]) (fun _ _ => trivial) (Tw.opens_int Try.underlying5 n)
theorem opens_bytes (n : Nat) : Tw.Opens Try.prog 22 (fun l : List UInt8 => .sl 1 (l.map fun b => .int .u8 b.toNat)) (fun l => l.length ≤ maxLen) n :=
  Tw.opens_le (Tw.opens_map _ _ id (fun _ => rfl) (fun _ h => h.1) (Tw.opens_slice (c := 1) Try.underlying22 (by kernel_rfl) (by decide) (opens_byte n))) (Nat.le_succ n)
theorem opens_step : ∀ n, Tw.Opens Try.prog 55 Stp.av (fun x => x.sub.wf) n
  | 0 => by
    intro H enc w base spare held fuel cs x hf hx
    obtain rfl : fuel = 0 := by omega
    simp [DataW.trod] at hx
  | n + 1 => by
    have h := opens_struct (sz := 9) Try.underlying55 (by kernel_rfl) (opens_cons (c := 1) (sz := 8) rfl (by kernel_rfl) (by decide) (Tw.opens_int Try.underlying41 n) (opens_cons (c := 1) (sz := 7) rfl (by kernel_rfl) (by decide) (Tw.opens_int Try.underlying3 n) (opens_cons (c := 1) (sz := 6) rfl (by kernel_rfl) (by decide) (Tw.opens_int Try.underlying3 n) (opens_cons (c := 1) (sz := 5) rfl (by kernel_rfl) (by decide) (Tw.opens_int Try.underlying3 n) (opens_cons (c := 1) (sz := 4) rfl (by kernel_rfl) (by decide) (Tw.opens_string Try.underlying9 n) (opens_last (sz := 4) rfl (by kernel_rfl) (opens_tree n)))))))
    refine Tw.opens_map Stp.av (fun x => x.sub.wf) (fun x => ⟨x.1, x.2.1, x.2.2.1, x.2.2.2.1, x.2.2.2.2.1, x.2.2.2.2.2⟩) (fun x => ?_) (fun x hx => hx.2.2.2.2.2) h
    obtain ⟨a, b, c, d, e, ⟨i, k, s, ks⟩⟩ := x
    simp [Stp.av, Tree.av, AV.cells]
theorem opens_steps (n : Nat) : Tw.Opens Try.prog 26 (fun l : List Stp => .sl 9 (l.map Stp.av)) (fun l => l.length ≤ maxLen ∧ ∀ x ∈ l, x.sub.wf) n :=
  Tw.opens_le (Tw.opens_map _ _ id (fun _ => rfl) (fun _ h => h) (Tw.opens_slice (c := 9) Try.underlying26 (by kernel_rfl) (by decide) (opens_step n))) (Nat.le_succ n)
end Go.Proofs.Ytmbbdabcbnemiaa
