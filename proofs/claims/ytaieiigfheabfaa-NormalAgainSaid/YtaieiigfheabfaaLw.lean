import Derived.Test.YtaieiigfheabfaaLp
import Derived.Test.YtaieiigfheabfaaTw7
/-! What a row's argument of a tree reads as. -/
namespace Go.Proofs.Ytaieiigfheabfaa
open Go.Proofs.Ytaieiigfheabfaa.Tw Go.RowKit
/-- All parts in range. -/
inductive Tree.wf : Tree → Prop
  | node {i k : Int} {s : ByteArray} {ks : List Tree} (hi : (Lit.int .i64 i).wf = true) (hk : (Lit.int .i64 k).wf = true) (hs : s.size ≤ maxLen) (h : ks.length ≤ maxLen) (hks : ∀ t ∈ ks, t.wf) : Tree.wf (.node i k s ks)
theorem opens_tree : ∀ n, Tw.Opens Try.prog 25 Tree.av Tree.wf n
  | 0 => by
    intro H enc w base spare held fuel cs x hf hx
    obtain rfl : fuel = 0 := by omega
    simp [DataW.trod] at hx
  | n + 1 => by
    have h := opens_struct (sz := 4) Try.underlying25 (by kernel_rfl) (opens_cons (c := 1) (sz := 3) rfl (by kernel_rfl) (by decide) (Tw.opens_int Try.underlying3 n) (opens_cons (c := 1) (sz := 2) rfl (by kernel_rfl) (by decide) (Tw.opens_int Try.underlying3 n) (opens_cons (c := 1) (sz := 1) rfl (by kernel_rfl) (by decide) (Tw.opens_string Try.underlying9 n) (opens_last (sz := 1) rfl (by kernel_rfl) (Tw.opens_le (Tw.opens_slice (c := 4) Try.underlying23 (by kernel_rfl) (by decide) (opens_tree n)) (Nat.le_succ n))))))
    refine Tw.opens_map Tree.av Tree.wf (fun x => .node x.1 x.2.1 x.2.2.1 x.2.2.2) (fun x => ?_) (fun x hx => ?_) h
    · simp [Tree.av, avs_map, AV.cells]
    · exact .node hx.1 hx.2.1 hx.2.2.1 hx.2.2.2.1 hx.2.2.2.2
theorem Tree.wf.ok {t : Tree} (h : t.wf) : t.ok := by
  induction h with
  | node hi hk hs h hks ih => exact .node h ih
theorem opens_ints (n : Nat) : Tw.Opens Try.prog 102 (fun l : List Int => .sl 1 (l.map em0.int.v)) (fun l => l.length ≤ maxLen) n :=
  Tw.opens_le (Tw.opens_map _ _ id (fun _ => rfl) (fun _ h => h.1) (Tw.opens_slice (c := 1) Try.underlying102 (by kernel_rfl) (by decide) (Tw.opens_int Try.underlying3 n))) (Nat.le_succ n)
end Go.Proofs.Ytaieiigfheabfaa
