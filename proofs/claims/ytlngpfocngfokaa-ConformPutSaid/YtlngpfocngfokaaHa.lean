import Derived.Test.YtlngpfocngfokaaLp
import Derived.Test.YtlngpfocngfokaaTw11
/-! A walk that hands nodes on: for whatever takes them. -/
namespace Go.Proofs.Ytlngpfocngfokaa
open Go.Proofs.Ytlngpfocngfokaa.Tw
/-- So low is a tree. -/
def low : Nat → Tree → Prop
  | 0, _ => False
  | n + 1, .node _ _ _ ks => ks.length ≤ 1000000 ∧ ∀ t ∈ ks, low n t
section
variable {σ : Type} (f : σ → Tree → Nat → σ × Bool)
mutual
def runT : Tree → Nat → σ → σ × Bool
  | .node i k s ks, d, x => match f x (.node i k s ks) d with
    | (x1, true) => runK ks (d + 1) x1
    | (x1, false) => (x1, false)
def runK : List Tree → Nat → σ → σ × Bool
  | [], _, x => (x, true)
  | t :: ts, d, x => match runT t d x with
    | (x1, true) => runK ts d x1
    | (x1, false) => (x1, false)
end
end
def cellsT (E : Em) : Tree → List AV
  | .node i k s ks => [.int .i64 i, .int .i64 k, .str s, .sl 4 (E.tree.l ks)]
theorem cellsT_pur (E : Em) (t : Tree) : purL (cellsT E t) = true := by
  obtain ⟨i, k, s, ks⟩ := t
  unfold cellsT
  (repeat (first | exact rfl | exact Emb.purL _ _ | assumption | apply pur_cons | apply pur_sl | apply pur_slt | apply pur_agg | apply pur_tup))
/-- Who takes a walk's nodes: its states, and what it does with a node; false: it wants no more. -/
structure Con (P : Program) (E : Em) where
  σ : Type
  st : σ → Store
  K : Nat
  p : Nat
  f : σ → Tree → Nat → σ × Bool
  Iv : σ → Prop
  len : ∀ s, (st s).length = K
  up : ∀ s, (st s).all (oUpto K) = true
  lt : p < K
  inv : ∀ s t d, Iv s → (f s t d).2 = true → Iv (f s t d).1
  ys : ∀ n s t (d : Nat), Iv s → low n t → d ≤ 1000000 → YS P (st s) p [.imm (cellsT E t), .int .i64 (d : Int)] (f s t d).2 (st (f s t d).1)
/-- The walk's own loop over a kid, that hands on what it is handed. -/
def nestf {σ : Type} (f : σ → Tree → Nat → σ × Bool) : σ × Bool → Tree → Nat → (σ × Bool) × Bool := fun x t d => (((f x.1 t d).1, (f x.1 t d).2), (f x.1 t d).2)
mutual
theorem runT_nest {σ : Type} (f : σ → Tree → Nat → σ × Bool) : ∀ (t : Tree) (d : Nat) (x : σ × Bool), runT (nestf f) t d x = (((runT f t d x.1).1, (runT f t d x.1).2), (runT f t d x.1).2)
  | .node i k s ks, d, x => by
    rw [runT, runT]
    unfold nestf
    generalize f x.1 (.node i k s ks) d = r
    obtain ⟨x1, b⟩ := r
    cases b with
    | true => exact runK_nest f ks (d + 1) (x1, true) rfl
    | false => rfl
theorem runK_nest {σ : Type} (f : σ → Tree → Nat → σ × Bool) : ∀ (ts : List Tree) (d : Nat) (x : σ × Bool), x.2 = true → runK (nestf f) ts d x = (((runK f ts d x.1).1, (runK f ts d x.1).2), (runK f ts d x.1).2)
  | [], d, x, h => by rw [runK, runK]; obtain ⟨x1, b⟩ := x; cases h; rfl
  | t :: ts, d, x, h => by
    rw [runK, runK, runT_nest f t d x]
    generalize runT f t d x.1 = r
    obtain ⟨x1, b⟩ := r
    cases b with
    | true => exact runK_nest f ts d (x1, true) rfl
    | false => rfl
end
theorem runK_drop {σ : Type} (f : σ → Tree → Nat → σ × Bool) {ts : List Tree} {j : Nat} {t : Tree} (h : ts[j]? = some t) (d : Nat) (x : σ) : runK f (ts.drop j) d x = runK f (t :: ts.drop (j + 1)) d x := by
  rw [List.drop_eq_getElem?_toList_append, h]
  rfl
mutual
theorem runT_inv {σ : Type} {f : σ → Tree → Nat → σ × Bool} {Iv : σ → Prop} (hi : ∀ s t d, Iv s → (f s t d).2 = true → Iv (f s t d).1) : ∀ (t : Tree) (d : Nat) (x : σ), Iv x → (runT f t d x).2 = true → Iv (runT f t d x).1
  | .node i k s ks, d, x, hx, h => by
    rw [runT] at h ⊢
    have h1 := hi x (.node i k s ks) d hx
    generalize f x (.node i k s ks) d = r at h h1
    obtain ⟨x1, b⟩ := r
    cases b with
    | true => exact runK_inv hi ks (d + 1) x1 (h1 rfl) h
    | false => cases h
theorem runK_inv {σ : Type} {f : σ → Tree → Nat → σ × Bool} {Iv : σ → Prop} (hi : ∀ s t d, Iv s → (f s t d).2 = true → Iv (f s t d).1) : ∀ (ts : List Tree) (d : Nat) (x : σ), Iv x → (runK f ts d x).2 = true → Iv (runK f ts d x).1
  | [], d, x, hx, h => hx
  | t :: ts, d, x, hx, h => by
    rw [runK] at h ⊢
    have h1 := runT_inv hi t d x hx
    generalize runT f t d x = r at h h1
    obtain ⟨x1, b⟩ := r
    cases b with
    | true => exact runK_inv hi ts d x1 (h1 rfl) h
    | false => cases h
end
theorem walk51 (A : Ar) (E : Em) {P : Program} (hP : P = Try.prog) (cs : List AV) (hc : purL cs = true) (d : Int) : TPure P 51 [.imm cs, .int .i64 d] (.func (.func 54) [] [.imm [.imm cs], .imm [.int .i64 d]]) := by
  have hc2 : Tw.Pur [AV.imm cs] := ⟨by simp [purL, AV.pur, hc]⟩
  refine TPure.ofE A T0 (T0_ok hP) (hP ▸ Try.func51) rfl _ rfl (by simp) ?_
  cbv
  ((try cbv) <;> (repeat ((with_reducible refine EW.of ?_); cbv)))
  exact ⟨rfl, hc2, rfl, ⟨rfl⟩, trivial⟩
end Go.Proofs.Ytlngpfocngfokaa
