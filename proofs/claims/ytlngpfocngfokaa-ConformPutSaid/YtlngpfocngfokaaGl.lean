import Derived.Test.YtlngpfocngfokaaGk
/-! The grammar that the document shows. -/
namespace Go.Proofs.Ytlngpfocngfokaa
open Go.Proofs.Ytlngpfocngfokaa.Tw
def rowG (l m : Int) : Gra := ⟨[⟨⟨#[108, 105, 115, 116]⟩, false, [⟨[1], 0, 2⟩, ⟨[2], l, m⟩]⟩, ⟨⟨#[97]⟩, true, []⟩, ⟨⟨#[98]⟩, false, []⟩], 0⟩
theorem rowG_ok (l m : Int) : (rowG l m).ok := by
  refine ⟨by simp [rowG], fun k hk => ?_⟩
  simp only [rowG, List.mem_cons, List.not_mem_nil, or_false] at hk
  rcases hk with rfl | rfl | rfl
  · refine ⟨by simp, fun s hs => ?_⟩
    simp only [List.mem_cons, List.not_mem_nil, or_false] at hs
    rcases hs with rfl | rfl <;> simp
  · exact ⟨by simp, fun s hs => by cases hs⟩
  · exact ⟨by simp, fun s hs => by cases hs⟩
/-! A row of structs says no less than another. -/
inductive Cells : List AV → List AV → Prop
  | nil : Cells [] []
  | cons {a b : AV} {xs ys : List AV} (h : Tw.Sub a b) (k : Cells xs ys) : Cells (a :: xs) (b :: ys)
theorem Cells.len {xs ys : List AV} (h : Cells xs ys) : xs.length = ys.length := by induction h with | nil => rfl | cons _ _ ih => simp [ih]
theorem Cells.get {xs ys : List AV} (h : Cells xs ys) : ∀ (i : Nat) (b : AV), ys[i]? = some b → ∃ a, xs[i]? = some a ∧ Tw.Sub a b := by
  induction h with
  | nil => intro i b h; simp at h
  | cons h k ih =>
    intro i b hb
    cases i with
    | zero => simp at hb; subst hb; exact ⟨_, rfl, h⟩
    | succ i => simpa using ih i b (by simpa using hb)
theorem Cells.agg {xs ys : List AV} (h : Cells xs ys) : Tw.Sub (.agg xs) (.agg ys) := Sub.agg h.len fun j c d hc hd => by
  obtain ⟨a, ha, hs⟩ := h.get j d hd
  rw [hc] at ha
  cases ha
  exact hs
inductive Rows : List AV → List AV → Prop
  | nil : Rows [] []
  | cons {a b xs ys : List AV} (h : Cells a b) (k : Rows xs ys) : Rows (.agg a :: xs) (.agg b :: ys)
theorem Rows.len {xs ys : List AV} (h : Rows xs ys) : xs.length = ys.length := by induction h with | nil => rfl | cons _ _ ih => simp [ih]
theorem Rows.get {xs ys : List AV} (h : Rows xs ys) : ∀ (i : Nat) (e : AV), ys[i]? = some e → ∃ a b, xs[i]? = some (.agg a) ∧ e = .agg b ∧ Cells a b := by
  induction h with
  | nil => intro i b h; simp at h
  | cons h k ih =>
    intro i b hb
    cases i with
    | zero => simp at hb; subst hb; exact ⟨_, _, rfl, rfl, h⟩
    | succ i => simpa using ih i b (by simpa using hb)
theorem Rows.sub {w : Nat} {els els' : List AV} (h : Rows els els') (hw' : ∀ e ∈ els', e.cells.length = w) : Tw.Sub (.slt w els) (.sl w els') := fun w0 I ρ v hv => by
  have hl := h.len
  cases hv with
  | slt a A n _ _ vs hn ha hw hc hr =>
    refine .sl a A n n w els' vs (hn.trans hl) (Nat.le_refl _) (ha.imp (fun e => by subst e; exact List.eq_nil_of_length_eq_zero (by simpa using hl.symm)) id) (fun e he => hw' e he) (fun i j hi hj => hc i j (by omega) hj) (fun i e j c he hc' => ?_)
    obtain ⟨p, q, hp, rfl, hpq⟩ := h.get i e he
    obtain ⟨x, hx, hs⟩ := hpq.get j c hc'
    exact hs w0 I ρ _ (hr i _ j _ hp hx)
set_option maxHeartbeats 1000000 in
theorem row36 (A : Ar) (E : Em) (G : EmG) {P : Program} (hP : P = Try.prog) (l m : Int) : TPure P 36 [.int .i64 l, .int .i64 m] (G.gv (rowG l m)) := by
  refine TPure.of (TC.of_ewp A T0 (T0_ok hP) (hP ▸ Try.func36) rfl _ rfl (by simp) ?_)
  have e1 : ∀ x : Int, E.int.l [x] = [.int .i64 x] := fun x => by simp only [E.int.cons, E.int.nil, E.iv]
  have eS : G.slot.l [⟨[1], 0, 2⟩, ⟨[2], l, m⟩] = [.agg [.sl 1 [.int .i64 1], .int .i64 0, .int .i64 2], .agg [.sl 1 [.int .i64 2], .int .i64 l, .int .i64 m]] := by simp only [G.slot.cons, G.slot.nil, G.sv E, e1]
  have eN : G.slot.l [] = [] := G.slot.nil
  have eK : G.kind.l (rowG l m).kinds = [.agg [.str ⟨#[108, 105, 115, 116]⟩, .bool false, .sl 3 [.agg [.sl 1 [.int .i64 1], .int .i64 0, .int .i64 2], .agg [.sl 1 [.int .i64 2], .int .i64 l, .int .i64 m]]], .agg [.str ⟨#[97]⟩, .bool true, .sl 3 []], .agg [.str ⟨#[98]⟩, .bool false, .sl 3 []]] := by
    unfold rowG
    simp only [G.kind.cons, G.kind.nil, G.kv, eS, eN]
  have hpur : (G.gv (rowG l m)).pur = true := by
    unfold EmG.gv
    simp only [AV.pur, purL, Bool.and_true]
    exact (G.kind.Pur _).h
  cbv
  ((try cbv) <;> (repeat ((with_reducible refine EW.of ?_); cbv)))
  refine ⟨_, _, VSV.trans (VSV.sub (v' := G.gv (rowG l m)) ?_) (VSV.pure hpur), rfl, rfl⟩
  unfold EmG.gv
  rw [eK]
  refine Cells.agg (.cons (Rows.sub ?_ (by simp [AV.cells])) (.cons (Sub.refl _) .nil))
  refine .cons (.cons (Sub.refl _) (.cons (Sub.refl _) (.cons (Rows.sub ?_ (by simp [AV.cells])) .nil))) (.cons (.cons (Sub.refl _) (.cons (Sub.refl _) (.cons (Sub.nils _) .nil))) (.cons (.cons (Sub.refl _) (.cons (Sub.refl _) (.cons (Sub.nils _) .nil))) .nil))
  exact .cons (.cons (Sub.slt _ _) (.cons (Sub.refl _) (.cons (Sub.refl _) .nil))) (.cons (.cons (Sub.slt _ _) (.cons (Sub.refl _) (.cons (Sub.refl _) .nil))) .nil)
end Go.Proofs.Ytlngpfocngfokaa
