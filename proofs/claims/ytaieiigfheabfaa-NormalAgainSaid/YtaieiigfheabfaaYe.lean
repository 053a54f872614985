import Derived.Test.YtaieiigfheabfaaLw
import Derived.Test.YtaieiigfheabfaaYd
/-! What a row's argument of steps reads as. -/
namespace Go.Proofs.Ytaieiigfheabfaa
open Go.Proofs.Ytaieiigfheabfaa.Tw Go.RowKit
theorem opens_step : ∀ n, Tw.Opens Try.prog 27 Stp.av (fun x => x.sub.wf) n
  | 0 => by
    intro H enc w base spare held fuel cs x hf hx
    obtain rfl : fuel = 0 := by omega
    simp [DataW.trod] at hx
  | n + 1 => by
    have h := opens_struct (sz := 9) Try.underlying27 (by kernel_rfl) (opens_cons (c := 1) (sz := 8) rfl (by kernel_rfl) (by decide) (Tw.opens_int Try.underlying22 n) (opens_cons (c := 1) (sz := 7) rfl (by kernel_rfl) (by decide) (Tw.opens_int Try.underlying3 n) (opens_cons (c := 1) (sz := 6) rfl (by kernel_rfl) (by decide) (Tw.opens_int Try.underlying3 n) (opens_cons (c := 1) (sz := 5) rfl (by kernel_rfl) (by decide) (Tw.opens_int Try.underlying3 n) (opens_cons (c := 1) (sz := 4) rfl (by kernel_rfl) (by decide) (Tw.opens_string Try.underlying9 n) (opens_last (sz := 4) rfl (by kernel_rfl) (opens_tree n)))))))
    refine Tw.opens_map Stp.av (fun x => x.sub.wf) (fun x => ⟨x.1, x.2.1, x.2.2.1, x.2.2.2.1, x.2.2.2.2.1, x.2.2.2.2.2⟩) (fun x => ?_) (fun x hx => hx.2.2.2.2.2) h
    obtain ⟨a, b, c, d, e, ⟨i, k, s, ks⟩⟩ := x
    simp [Stp.av, Tree.av, AV.cells]
theorem opens_steps (n : Nat) : Tw.Opens Try.prog 29 (fun l : List Stp => .sl 9 (l.map Stp.av)) (fun l => l.length ≤ maxLen ∧ ∀ x ∈ l, x.sub.wf) n :=
  Tw.opens_le (Tw.opens_map _ _ id (fun _ => rfl) (fun _ h => h) (Tw.opens_slice (c := 9) Try.underlying29 (by kernel_rfl) (by decide) (opens_step n))) (Nat.le_succ n)
end Go.Proofs.Ytaieiigfheabfaa
