import Derived.Test.YtaieiigfheabfaaLp
/-! Literals that say no less than what a contract asks. -/
namespace Go.Proofs.Ytaieiigfheabfaa
open Go.Proofs.Ytaieiigfheabfaa.Tw
inductive Cells : List AV → List AV → Prop
  | nil : Cells [] []
  | cons {a b : AV} {xs ys : List AV} (h : Tw.Sub a b) (k : Cells xs ys) : Cells (a :: xs) (b :: ys)
theorem Cells.len {xs ys : List AV} (h : Cells xs ys) : xs.length = ys.length := by induction h with | nil => rfl | cons _ _ ih => simp [ih]
theorem Cells.get {xs ys : List AV} (h : Cells xs ys) : ∀ (i : Nat) (b : AV), ys[i]? = some b → ∃ a, xs[i]? = some a ∧ Tw.Sub a b := by
  induction h with
  | nil => intro i b h; simp at h
  | cons h k ih =>
    intro i b hb
    cases i with
    | zero => simp at hb; subst hb; exact ⟨_, rfl, h⟩
    | succ i => simpa using ih i b (by simpa using hb)
theorem Cells.agg {xs ys : List AV} (h : Cells xs ys) : Tw.Sub (.agg xs) (.agg ys) := Sub.agg h.len fun j c d hc hd => by
  obtain ⟨a, ha, hs⟩ := h.get j d hd
  rw [hc] at ha
  cases ha
  exact hs
inductive Rows : List AV → List AV → Prop
  | nil : Rows [] []
  | cons {a b xs ys : List AV} (h : Cells a b) (k : Rows xs ys) : Rows (.agg a :: xs) (.agg b :: ys)
theorem Rows.len {xs ys : List AV} (h : Rows xs ys) : xs.length = ys.length := by induction h with | nil => rfl | cons _ _ ih => simp [ih]
theorem Rows.get {xs ys : List AV} (h : Rows xs ys) : ∀ (i : Nat) (e : AV), ys[i]? = some e → ∃ a b, xs[i]? = some (.agg a) ∧ e = .agg b ∧ Cells a b := by
  induction h with
  | nil => intro i b h; simp at h
  | cons h k ih =>
    intro i b hb
    cases i with
    | zero => simp at hb; subst hb; exact ⟨_, _, rfl, rfl, h⟩
    | succ i => simpa using ih i b (by simpa using hb)
theorem Rows.sub {w : Nat} {els els' : List AV} (h : Rows els els') (hw' : ∀ e ∈ els', e.cells.length = w) : Tw.Sub (.slt w els) (.sl w els') := fun w0 I ρ v hv => by
  have hl := h.len
  cases hv with
  | slt a A n _ _ vs hn ha hw hc hr =>
    refine .sl a A n n w els' vs (hn.trans hl) (Nat.le_refl _) (ha.imp (fun e => by subst e; exact List.eq_nil_of_length_eq_zero (by simpa using hl.symm)) id) (fun e he => hw' e he) (fun i j hi hj => hc i j (by omega) hj) (fun i e j c he hc' => ?_)
    obtain ⟨p, q, hp, rfl, hpq⟩ := h.get i e he
    obtain ⟨x, hx, hs⟩ := hpq.get j c hc'
    exact hs w0 I ρ _ (hr i _ j _ hp hx)
/-- A contract, carried to arguments that say no less. -/
theorem tpure_sub {P : Program} {f : FuncId} {args args' : List AV} {r : AV} (h : TPure P f args r) (hs : Cells args' args) : TPure P f args' r := fun w I vs hI hv =>
  h w I vs hI ⟨hv.1.trans hs.len, fun j v c hj hc => by
    obtain ⟨a, ha, hac⟩ := hs.get j c hc
    exact hac w I [] v (hv.2 j v a hj ha)⟩
end Go.Proofs.Ytaieiigfheabfaa
