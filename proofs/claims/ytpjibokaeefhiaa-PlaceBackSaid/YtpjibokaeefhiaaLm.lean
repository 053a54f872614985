import Derived.Test.YtpjibokaeefhiaaLl
/-! The tree of five nodes. -/
namespace Go.Proofs.Ytpjibokaeefhiaa
open Go.Proofs.Ytpjibokaeefhiaa.Tw
def leaf (i : Int) : Tree := .node i 0 ⟨#[]⟩ []
def someT : Tree := .node 1 0 ⟨#[]⟩ [leaf 2, .node 3 0 ⟨#[]⟩ [leaf 4, leaf 5]]
/-- Nodes whose kids say no less. -/
inductive NSub : AV → AV → Prop
  | mk (i k s : AV) {x y : AV} (h : Tw.Sub x y) : NSub (.agg [i, k, s, x]) (.agg [i, k, s, y])
inductive NSubs : List AV → List AV → Prop
  | nil : NSubs [] []
  | cons {a b : AV} {xs ys : List AV} (h : NSub a b) (k : NSubs xs ys) : NSubs (a :: xs) (b :: ys)
theorem NSubs.len {xs ys : List AV} (h : NSubs xs ys) : xs.length = ys.length := by induction h with | nil => rfl | cons _ _ ih => simp [ih]
theorem NSubs.get {xs ys : List AV} (h : NSubs xs ys) : ∀ (i : Nat) (b : AV), ys[i]? = some b → ∃ a, xs[i]? = some a ∧ NSub a b := by
  induction h with
  | nil => intro i b h; simp at h
  | cons h k ih =>
    intro i b hb
    cases i with
    | zero => simp at hb; subst hb; exact ⟨_, rfl, h⟩
    | succ i => simpa using ih i b (by simpa using hb)
theorem Sub.kids {els els' : List AV} (h : NSubs els els') : Tw.Sub (.slt 4 els) (.sl 4 els') := fun w I ρ v hv => by
  have hl := h.len
  cases hv with
  | slt a A n _ _ vs hn ha hw hc hr =>
    refine .sl a A n n 4 els' vs (hn.trans hl) (Nat.le_refl _) (ha.imp (fun e => by subst e; exact List.eq_nil_of_length_eq_zero (by simpa using hl.symm)) id) (fun e he => ?_) (fun i j hi hj => hc i j (by omega) hj) (fun i e j c he hc' => ?_)
    · obtain ⟨i, hi⟩ := List.getElem?_of_mem he
      obtain ⟨a', _, hn⟩ := h.get i e hi
      cases hn
      rfl
    · obtain ⟨a', ha', hn⟩ := h.get i e he
      cases hn with
      | mk p q r hx =>
        match j, hc' with
        | 0, hc' => cases hc'; exact hr i _ 0 _ ha' rfl
        | 1, hc' => cases hc'; exact hr i _ 1 _ ha' rfl
        | 2, hc' => cases hc'; exact hr i _ 2 _ ha' rfl
        | 3, hc' => cases hc'; exact hx w I ρ _ (hr i _ 3 _ ha' rfl)
        | j + 4, hc' => simp [AV.cells] at hc'
theorem NSub.sub {a b : AV} (h : NSub a b) : Tw.Sub a b := by
  cases h with
  | mk i k s hx =>
    exact Sub.agg rfl fun j c d hc hd => by
      match j, hc, hd with
      | 0, hc, hd => cases hc; cases hd; exact Sub.refl _
      | 1, hc, hd => cases hc; cases hd; exact Sub.refl _
      | 2, hc, hd => cases hc; cases hd; exact Sub.refl _
      | 3, hc, hd => cases hc; cases hd; exact hx
      | j + 4, hc, hd => simp at hc
theorem some56 (A : Ar) {P : Program} (hP : P = Try.prog) : TPure P 56 [] someT.av := by
  refine TPure.of (TC.of_ewp A T0 (T0_ok hP) (hP ▸ Try.func56) rfl _ rfl (by simp) ?_)
  cbv
  ((try cbv) <;> (repeat ((with_reducible refine EW.of ?_); cbv)))
  refine ⟨_, _, VSV.trans (VSV.sub (v' := someT.av) ?_) (VSV.pure (someT.av_pur)), rfl, rfl⟩
  exact (NSub.mk _ _ _ (Sub.kids (.cons (.mk _ _ _ (Sub.nils 4)) (.cons (.mk _ _ _ (Sub.kids (.cons (.mk _ _ _ (Sub.nils 4)) (.cons (.mk _ _ _ (Sub.nils 4)) .nil)))) .nil)))).sub
end Go.Proofs.Ytpjibokaeefhiaa
