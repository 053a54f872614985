import Derived.Test.YtpjibokaeefhiaaLm
/-! The functions that hand iterators back. -/
namespace Go.Proofs.Ytpjibokaeefhiaa
open Go.Proofs.Ytpjibokaeefhiaa.Tw
theorem Backward79 (A : Ar) {P : Program} (hP : P = Try.prog) (ip : List AV) : TC P 79 [.sl 1 ip] [] (fun x L' => x = .ret (.func (.func 83) [] [.ref 0 1 0 0]) ∧ L' = [some (.box 1 (.sl 1 ip))]) := by
  refine TC.of_ewp A T0 (T0_ok hP) (hP ▸ Try.func79) rfl _ rfl (by simp) ?_
  cbv
  ((try cbv) <;> (repeat ((with_reducible refine EW.of ?_); cbv)))
  exact ⟨_, _, VSV.refl _ _ _, rfl, rfl⟩
theorem Above58 (A : Ar) {P : Program} (hP : P = Try.prog) (t : Tree) (id : Int) : TC P 58 [t.av, .int .i64 id] [] (fun x L' => x = .ret (.func (.func 78) [] [.ref 0 4 0 0, .ref 1 1 0 0]) ∧ L' = [some (.box 4 t.av), some (.box 1 (.int .i64 id))]) := by
  refine TC.of_ewp A T0 (T0_ok hP) (hP ▸ Try.func58) rfl _ rfl (by simp) ?_
  obtain ⟨i, k, s, ks⟩ := t
  simp only [Tree.av]
  generalize avs ks = aks
  cbv
  ((try cbv) <;> (repeat ((with_reducible refine EW.of ?_); cbv)))
  exact ⟨_, _, VSV.refl _ _ _, rfl, rfl⟩
end Go.Proofs.Ytpjibokaeefhiaa
