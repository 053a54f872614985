import Derived.Test.YtlngpfocngfokaaHd
/-! Does a node conform, its kids left aside? -/
namespace Go.Proofs.Ytlngpfocngfokaa
open Go.Proofs.Ytlngpfocngfokaa.Tw
def nodeB (g : Gra) (t : Tree) : Bool := fitsB g (kindT t) (kindsT t) && textB g (kindT t) (textT t)
set_option maxHeartbeats 1000000 in
theorem Node30 (A : Ar) (E : Em) (G : EmG) (H : EmN) (R : EmR) {P : Program} (hP : P = Try.prog) (g : Gra) (hg : g.ok) (t : Tree) (hl : kidsL t ≤ 1000000) : TPure P 30 [G.gv g, E.tree.v t] (.bool (nodeB g t)) := by
  have h32 := Kinds32 A E hP t hl
  have h12 := Fits12 A E G H R hP g hg (kindT t) (kindsT t) (by unfold kindsT; rw [List.length_map]; exact Nat.le_trans hl (by decide))
  have h19 := Text19 A E G H hP g hg (kindT t) (textT t)
  unfold nodeB
  obtain ⟨f, hf⟩ : ∃ f, f = fitsB g (kindT t) (kindsT t) := ⟨_, rfl⟩
  obtain ⟨x, hx⟩ : ∃ f, f = textB g (kindT t) (textT t) := ⟨_, rfl⟩
  rw [← hf] at h12 ⊢
  rw [← hx] at h19 ⊢
  generalize kindsT t = kl at h32 h12
  obtain ⟨i, k, s, ks⟩ := t
  dsimp only [kindT, textT] at h12 h19
  obtain ⟨gk, root⟩ := g
  rw [E.node] at h32 ⊢
  unfold EmG.gv at h12 h19 ⊢
  dsimp only at h12 h19 ⊢
  refine TPure.ofE A T0 (T0_ok hP) (hP ▸ Try.func30) rfl _ rfl (by simp) ?_
  cbv
  ((try cbv) <;> (repeat ((with_reducible refine EW.of ?_); cbv)))
  (refine TW.draw (A := A) (T0_ok hP) (hP ▸ follows_mixed) (by kernel_rfl) rfl ?_; cbv)
  (refine ⟨Ent.of (hP ▸ Try.func32) rfl, ?_⟩; refine ⟨_, TC.pureX h32 (by cbv; (repeat (first | exact trivial | refine And.intro (Emb.Pur _ _) ?_ | refine And.intro rfl ?_ | refine And.intro (Pur.mk rfl) ?_ | refine And.intro (Pur.mk (by assumption)) ?_))), ?_⟩; cbv)
  (refine ⟨Ent.of (hP ▸ Try.func12) rfl, ?_⟩; refine ⟨_, TC.pureX h12 (by cbv; (repeat (first | exact trivial | refine And.intro (Emb.Pur _ _) ?_ | refine And.intro rfl ?_ | refine And.intro (Pur.mk rfl) ?_ | refine And.intro (Pur.mk (by assumption)) ?_))), ?_⟩; cbv)
  cases f with
  | false =>
    cbv
    ((try cbv) <;> (repeat ((with_reducible refine EW.of ?_); cbv)))
  | true =>
    cbv
    (refine ⟨Ent.of (hP ▸ Try.func19) rfl, ?_⟩; refine ⟨_, TC.pureX h19 (by cbv; (repeat (first | exact trivial | refine And.intro (Emb.Pur _ _) ?_ | refine And.intro rfl ?_ | refine And.intro (Pur.mk rfl) ?_ | refine And.intro (Pur.mk (by assumption)) ?_))), ?_⟩; cbv)
    ((try cbv) <;> (repeat ((with_reducible refine EW.of ?_); cbv)))
set_option maxHeartbeats 1000000 in
theorem Node31 (A : Ar) (E : Em) (G : EmG) (R : EmR) {P : Program} (hP : P = Try.prog) (g : Gra) (hg : g.ok) (t : Tree) (hl : kidsL t ≤ 1000000) : TPure P 31 [G.gv g, E.tree.v t] (.bool (nodeB g t)) := by
  have h33 := Kinds33 A E hP t hl
  have h13 := Fits13 A E G R hP g hg (kindT t) (kindsT t) (by unfold kindsT; rw [List.length_map]; exact Nat.le_trans hl (by decide))
  have h20 := Text20 A E G hP g hg (kindT t) (textT t)
  have h18 := Check18 A E G hP g hg
  have hno : kindO g (kindT t) = none → nodeB g t = false := fun h => by unfold nodeB fitsB; rw [h]; rfl
  have hyes : nodeB g t = (textB g (kindT t) (textT t) && fitsB g (kindT t) (kindsT t)) := Bool.and_comm _ _
  have hko : ¬ (checkB g = true ∧ 0 ≤ kindT t ∧ kindT t < g.kinds.length) → kindO g (kindT t) = none := fun h => by unfold kindO; rw [if_neg h]
  obtain ⟨r, hr⟩ : ∃ r, r = nodeB g t := ⟨_, rfl⟩
  rw [← hr] at hno hyes ⊢
  obtain ⟨f, hf⟩ : ∃ f, f = fitsB g (kindT t) (kindsT t) := ⟨_, rfl⟩
  obtain ⟨x, hx⟩ : ∃ f, f = textB g (kindT t) (textT t) := ⟨_, rfl⟩
  rw [← hf] at h13 hyes
  rw [← hx] at h20 hyes
  obtain ⟨cb, hcb⟩ : ∃ b, b = checkB g := ⟨_, rfl⟩
  rw [← hcb] at h18 hko
  generalize kindO g (kindT t) = ko at hno hko
  generalize kindsT t = kl at h33 h13
  obtain ⟨i, k, s, ks⟩ := t
  dsimp only [kindT, textT] at h13 h20 hko
  obtain ⟨gk, root⟩ := g
  have hkk : A.len (G.kind.l gk) = (gk.length : Int) := by rw [A.ok_len, G.kind.len gk]
  rw [E.node] at h33 ⊢
  unfold EmG.gv at h13 h20 h18 ⊢
  dsimp only at h13 h20 h18 hko ⊢
  refine TPure.ofE A T0 (T0_ok hP) (hP ▸ Try.func31) rfl _ rfl (by simp) ?_
  cbv
  ((try cbv) <;> (repeat ((with_reducible refine EW.of ?_); cbv)))
  (refine TW.draw (A := A) (T0_ok hP) (hP ▸ follows_mixed) (by kernel_rfl) rfl ?_; cbv)
  (refine ⟨Ent.of (hP ▸ Try.func18) rfl, ?_⟩; refine ⟨_, TC.pureX h18 (by cbv; (repeat (first | exact trivial | refine And.intro (Emb.Pur _ _) ?_ | refine And.intro rfl ?_ | refine And.intro (Pur.mk rfl) ?_ | refine And.intro (Pur.mk (by assumption)) ?_))), ?_⟩; cbv)
  cases cb with
  | false =>
    refine bno (eqF (by decide)) ?_
    cbv
    have hr2 := hno (hko (fun hc => by obtain ⟨c1, c2, c3⟩ := hc; first | (cases c1; done) | exact absurd c2 h0 | exact absurd c3 h1))
    rw [hr2]
    cbv
    ((try cbv) <;> (repeat ((with_reducible refine EW.of ?_); cbv)))
  | true =>
    refine byes (eqT rfl) ?_
    cbv
    refine bsplit (fun h0 => ?_) (fun h0 => ?_)
    · have h0 : 0 ≤ k := le_t h0 rfl rfl
      cbv
      refine bsplit (fun h1 => ?_) (fun h1 => ?_)
      · cbv
        (refine ⟨Ent.of (hP ▸ Try.func20) rfl, ?_⟩; refine ⟨_, TC.pureX h20 (by cbv; (repeat (first | exact trivial | refine And.intro (Emb.Pur _ _) ?_ | refine And.intro rfl ?_ | refine And.intro (Pur.mk rfl) ?_ | refine And.intro (Pur.mk (by assumption)) ?_))), ?_⟩; cbv)
        cases x with
        | false =>
          rw [hyes]
          cbv
          ((try cbv) <;> (repeat ((with_reducible refine EW.of ?_); cbv)))
        | true =>
          cbv
          (refine ⟨Ent.of (hP ▸ Try.func33) rfl, ?_⟩; refine ⟨_, TC.pureX h33 (by cbv; (repeat (first | exact trivial | refine And.intro (Emb.Pur _ _) ?_ | refine And.intro rfl ?_ | refine And.intro (Pur.mk rfl) ?_ | refine And.intro (Pur.mk (by assumption)) ?_))), ?_⟩; cbv)
          (refine ⟨Ent.of (hP ▸ Try.func13) rfl, ?_⟩; refine ⟨_, TC.pureX h13 (by cbv; (repeat (first | exact trivial | refine And.intro (Emb.Pur _ _) ?_ | refine And.intro rfl ?_ | refine And.intro (Pur.mk rfl) ?_ | refine And.intro (Pur.mk (by assumption)) ?_))), ?_⟩; cbv)
          rw [hyes]
          cbv
          ((try cbv) <;> (repeat ((with_reducible refine EW.of ?_); cbv)))
      · have h1 : ¬ (k < (gk.length : Int)) := Int.not_lt.2 (lt_f h1 rfl hkk)
        cbv
        have hr2 := hno (hko (fun hc => by obtain ⟨c1, c2, c3⟩ := hc; first | (cases c1; done) | exact absurd c2 h0 | exact absurd c3 h1))
        rw [hr2]
        cbv
        ((try cbv) <;> (repeat ((with_reducible refine EW.of ?_); cbv)))
    · have h0 : ¬ (0 ≤ k) := Int.not_le.2 (le_f h0 rfl rfl)
      cbv
      have hr2 := hno (hko (fun hc => by obtain ⟨c1, c2, c3⟩ := hc; first | (cases c1; done) | exact absurd c2 h0 | exact absurd c3 h1))
      rw [hr2]
      cbv
      ((try cbv) <;> (repeat ((with_reducible refine EW.of ?_); cbv)))
end Go.Proofs.Ytlngpfocngfokaa
