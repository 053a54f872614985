import Derived.Test.YtpjibokaeefhiaaLw
import Derived.Test.YtpjibokaeefhiaaOa
/-! What a row's argument of leases reads as. -/
namespace Go.Proofs.Ytpjibokaeefhiaa
open Go.Proofs.Ytpjibokaeefhiaa.Tw Go.RowKit
theorem opens_lease : ∀ n, Tw.Opens Try.prog 54 Lease.av (fun _ => True) n
  | 0 => by
    intro H enc w base spare held fuel cs x hf hx
    obtain rfl : fuel = 0 := by omega
    simp [DataW.trod] at hx
  | n + 1 => by
    have h := opens_struct (sz := 5) Try.underlying54 (by kernel_rfl) (opens_cons (c := 1) (sz := 4) rfl (by kernel_rfl) (by decide) (Tw.opens_int Try.underlying3 n) (opens_cons (c := 1) (sz := 3) rfl (by kernel_rfl) (by decide) (Tw.opens_int Try.underlying3 n) (opens_cons (c := 1) (sz := 2) rfl (by kernel_rfl) (by decide) (Tw.opens_int Try.underlying3 n) (opens_cons (c := 1) (sz := 1) rfl (by kernel_rfl) (by decide) (Tw.opens_int Try.underlying3 n) (opens_last (sz := 1) rfl (by kernel_rfl) (Tw.opens_int Try.underlying3 n))))))
    refine Tw.opens_map Lease.av (fun _ => True) (fun x => ⟨x.1, x.2.1, x.2.2.1, x.2.2.2.1, x.2.2.2.2⟩) (fun x => ?_) (fun x hx => trivial) h
    simp [Lease.av, AV.cells]
theorem opens_leases (n : Nat) : Tw.Opens Try.prog 52 (fun l : List Lease => .sl 5 (l.map Lease.av)) (fun l => l.length ≤ maxLen) n :=
  Tw.opens_le (Tw.opens_map _ _ id (fun _ => rfl) (fun _ h => h.1) (Tw.opens_slice (c := 5) Try.underlying52 (by kernel_rfl) (by decide) (opens_lease n))) (Nat.le_succ n)
theorem opens_leasess (n : Nat) : Tw.Opens Try.prog 59 (fun l : List (List Lease) => .sl 1 (l.map fun y => .sl 5 (y.map Lease.av))) (fun l => l.length ≤ maxLen ∧ ∀ y ∈ l, y.length ≤ maxLen) n :=
  Tw.opens_le (Tw.opens_map _ _ id (fun _ => rfl) (fun _ h => h) (Tw.opens_slice (c := 1) Try.underlying59 (by kernel_rfl) (by decide) (opens_leases n))) (Nat.le_succ n)
end Go.Proofs.Ytpjibokaeefhiaa
