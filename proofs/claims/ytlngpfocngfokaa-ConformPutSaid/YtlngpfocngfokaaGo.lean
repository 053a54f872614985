import Derived.Test.YtlngpfocngfokaaGn
import Derived.Test.YtlngpfocngfokaaLw
/-! What a row's argument of a grammar reads as. -/
namespace Go.Proofs.Ytlngpfocngfokaa
open Go.Proofs.Ytlngpfocngfokaa.Tw Go.RowKit
def Slo.wf (s : Slo) : Prop := s.kinds.length ≤ maxLen
def Knd.wf (k : Knd) : Prop := k.slots.length ≤ maxLen ∧ ∀ s ∈ k.slots, s.wf
def Gra.wf (g : Gra) : Prop := g.kinds.length ≤ maxLen ∧ ∀ k ∈ g.kinds, k.wf
theorem opens_slot : ∀ n, Tw.Opens Try.prog 35 Slo.av Slo.wf n
  | 0 => by
    intro H enc w base spare held fuel cs x hf hx
    obtain rfl : fuel = 0 := by omega
    simp [DataW.trod] at hx
  | n + 1 => by
    have h := opens_struct (sz := 3) Try.underlying35 (by kernel_rfl) (opens_cons (c := 1) (sz := 2) rfl (by kernel_rfl) (by decide) (opens_ints n) (opens_cons (c := 1) (sz := 1) rfl (by kernel_rfl) (by decide) (Tw.opens_int Try.underlying3 n) (opens_last (sz := 1) rfl (by kernel_rfl) (Tw.opens_int Try.underlying3 n))))
    refine Tw.opens_map Slo.av Slo.wf (fun x => ⟨x.1, x.2.1, x.2.2⟩) (fun x => ?_) (fun x hx => ?_) h
    · rfl
    · exact hx.1
theorem opens_slots (n : Nat) : Tw.Opens Try.prog 31 (fun l : List Slo => .sl 3 (l.map Slo.av)) (fun l => l.length ≤ maxLen ∧ ∀ x ∈ l, x.wf) n :=
  Tw.opens_le (Tw.opens_map _ _ id (fun _ => rfl) (fun _ h => h) (Tw.opens_slice (c := 3) Try.underlying31 (by kernel_rfl) (by decide) (opens_slot n))) (Nat.le_succ n)
theorem opens_kind : ∀ n, Tw.Opens Try.prog 33 Knd.av Knd.wf n
  | 0 => by
    intro H enc w base spare held fuel cs x hf hx
    obtain rfl : fuel = 0 := by omega
    simp [DataW.trod] at hx
  | n + 1 => by
    have h := opens_struct (sz := 3) Try.underlying33 (by kernel_rfl) (opens_cons (c := 1) (sz := 2) rfl (by kernel_rfl) (by decide) (Tw.opens_string Try.underlying9 n) (opens_cons (c := 1) (sz := 1) rfl (by kernel_rfl) (by decide) (Tw.opens_bool Try.underlying4 n) (opens_last (sz := 1) rfl (by kernel_rfl) (opens_slots n))))
    refine Tw.opens_map Knd.av Knd.wf (fun x => ⟨x.1, x.2.1, x.2.2⟩) (fun x => ?_) (fun x hx => ?_) h
    · rfl
    · exact hx.2.2
theorem opens_kinds (n : Nat) : Tw.Opens Try.prog 22 (fun l : List Knd => .sl 3 (l.map Knd.av)) (fun l => l.length ≤ maxLen ∧ ∀ x ∈ l, x.wf) n :=
  Tw.opens_le (Tw.opens_map _ _ id (fun _ => rfl) (fun _ h => h) (Tw.opens_slice (c := 3) Try.underlying22 (by kernel_rfl) (by decide) (opens_kind n))) (Nat.le_succ n)
def Gra.av (g : Gra) : AV := .agg [.sl 3 (g.kinds.map Knd.av), .int .i64 g.root]
theorem opens_grammar : ∀ n, Tw.Opens Try.prog 24 Gra.av Gra.wf n
  | 0 => by
    intro H enc w base spare held fuel cs x hf hx
    obtain rfl : fuel = 0 := by omega
    simp [DataW.trod] at hx
  | n + 1 => by
    have h := opens_struct (sz := 2) Try.underlying24 (by kernel_rfl) (opens_cons (c := 1) (sz := 1) rfl (by kernel_rfl) (by decide) (opens_kinds n) (opens_last (sz := 1) rfl (by kernel_rfl) (Tw.opens_int Try.underlying3 n)))
    refine Tw.opens_map Gra.av Gra.wf (fun x => ⟨x.1, x.2⟩) (fun x => ?_) (fun x hx => ?_) h
    · rfl
    · exact hx.1
theorem Gra.wf.ok {g : Gra} (h : g.wf) : g.ok := ⟨Nat.le_trans h.1 (by decide), fun k hk => ⟨Nat.le_trans (h.2 k hk).1 (by decide), fun s hs => Nat.le_trans ((h.2 k hk).2 s hs) (by decide)⟩⟩
theorem Gra.av_gv (g : Gra) : g.av = emG0.gv g := rfl
end Go.Proofs.Ytlngpfocngfokaa
